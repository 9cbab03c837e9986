/- Lemmas for the statements of this seat, part 3: contracts of functions of the program and of the references, and plain facts on lists of bytes. -/
import Derived.Shelf.Strings.SlTrimAscii
import Derived.Test.YtffcapkjfmkkaaaGreatDoorQ2
import Derived.IntWalk
import Derived.Shelf.Strings.BuilderX
import Derived.Lib.Builder
import Derived.Lib.AppendStr
import Derived.Lib.UnsafeStr
import Derived.Laws.Externs
import Derived.Lib.IndexMore
namespace Go.Proofs
open Go.Shelf
def YtffcapkjfmkkaaaGreatDoor.lays161b_ren : Go.Shelf.Ren := ⟨fun | 161 => 66 | 231 => 39 | 227 => 41 | 233 => 42 | 235 => 44 | 228 => 57 | 197 => 58 | 151 => 59 | 260 => 73 | 152 => 61 | 137 => 75 | 119 => 76 | 224 => 77 | 225 => 78 | 217 => 92 | 266 => 101 | n => n, fun | 9 => 9 | 4 => 4 | 3 => 3 | 5 => 5 | 117 => 74 | 116 => 73 | 0 => 0 | 124 => 77 | 105 => 105 | 21 => 21 | 119 => 129 | 46 => 39 | 139 => 138 | 138 => 137 | n => n, fun | 3 => 0 | 4 => 1 | n => n⟩
theorem YtffcapkjfmkkaaaGreatDoor.lays161b : Go.Proofs.Lays.n161 Tryz.prog YtffcapkjfmkkaaaGreatDoor.lays161b_ren := {
  mixed := by kernel_rfl
  f119 := Tryz.func76.trans (congrArg some (by kernel_rfl))
  f137 := Tryz.func75.trans (congrArg some (by kernel_rfl))
  f151 := Tryz.func59.trans (congrArg some (by kernel_rfl))
  f152 := Tryz.func61.trans (congrArg some (by kernel_rfl))
  f161 := Tryz.func66.trans (congrArg some (by kernel_rfl))
  f197 := Tryz.func58.trans (congrArg some (by kernel_rfl))
  f217 := Tryz.func92.trans (congrArg some (by kernel_rfl))
  f224 := Tryz.func77.trans (congrArg some (by kernel_rfl))
  f225 := Tryz.func78.trans (congrArg some (by kernel_rfl))
  f227 := Tryz.func41.trans (congrArg some (by kernel_rfl))
  f228 := Tryz.func57.trans (congrArg some (by kernel_rfl))
  f231 := Tryz.func39.trans (congrArg some (by kernel_rfl))
  f233 := Tryz.func42.trans (congrArg some (by kernel_rfl))
  f235 := Tryz.func44.trans (congrArg some (by kernel_rfl))
  f260 := Tryz.func73.trans (congrArg some (by kernel_rfl))
  f266 := Tryz.func101.trans (congrArg some (by kernel_rfl))
  t0 := Tryz.underlying0
  a0 := Tryz.isAgg0
  z0 := Tryz.sizeOf0
  v0 := Tryz.zeroValue0
  t3 := Tryz.underlying3
  a3 := Tryz.isAgg3
  z3 := Tryz.sizeOf3
  v3 := Tryz.zeroValue3
  t4 := Tryz.underlying4
  a4 := Tryz.isAgg4
  z4 := Tryz.sizeOf4
  v4 := Tryz.zeroValue4
  t5 := Tryz.underlying5
  a5 := Tryz.isAgg5
  z5 := Tryz.sizeOf5
  v5 := Tryz.zeroValue5
  t9 := Tryz.underlying9
  a9 := Tryz.isAgg9
  z9 := Tryz.sizeOf9
  v9 := Tryz.zeroValue9
  t21 := Tryz.underlying21
  a21 := Tryz.isAgg21
  z21 := Tryz.sizeOf21
  v21 := Tryz.zeroValue21
  t46 := Tryz.underlying39
  a46 := Tryz.isAgg39
  z46 := Tryz.sizeOf39
  v46 := Tryz.zeroValue39
  t105 := Tryz.underlying105
  a105 := Tryz.isAgg105
  z105 := Tryz.sizeOf105
  v105 := Tryz.zeroValue105
  t116 := Tryz.underlying73
  a116 := Tryz.isAgg73
  z116 := Tryz.sizeOf73
  t117 := Tryz.underlying74
  a117 := Tryz.isAgg74
  z117 := Tryz.sizeOf74
  v117 := Tryz.zeroValue74
  t119 := Tryz.underlying129
  a119 := Tryz.isAgg129
  z119 := Tryz.sizeOf129
  t124 := Tryz.underlying77
  a124 := Tryz.isAgg77
  z124 := Tryz.sizeOf77
  v124 := Tryz.zeroValue77
  t138 := Tryz.underlying137
  a138 := Tryz.isAgg137
  z138 := Tryz.sizeOf137
  v138 := Tryz.zeroValue137
  t139 := Tryz.underlying138
  a139 := Tryz.isAgg138
  z139 := Tryz.sizeOf138
  v139 := Tryz.zeroValue138
  g3 := by kernel_rfl
  g4 := by kernel_rfl }
theorem YtffcapkjfmkkaaaGreatDoor.strings_TrimLeft_laid (s cutset : ByteArray) (w : World) (hcs : cutset.size < 4294967281) (hascii : ∀ (j : Nat) b, cutset.data.toList[j]? = some b → b.toNat < 128) :
    Calls Tryz.prog 66 #[.string s, .string cutset] w fun e w' => e = .returned (.string ⟨(Lib.trimLeftS s.data.toList cutset.data.toList).toArray⟩) ∧ Go.RowKit.Below w.heap.size w w' := Any.strings_TrimLeft_laid YtffcapkjfmkkaaaGreatDoor.lays161b (by kernel_rfl) s cutset w hcs hascii
def YtffcapkjfmkkaaaGreatDoor.lays162b_ren : Go.Shelf.Ren := ⟨fun | 162 => 81 | 232 => 40 | 227 => 41 | 234 => 43 | 236 => 45 | 228 => 57 | 271 => 60 | 151 => 59 | 120 => 74 | 197 => 58 | 152 => 61 | 260 => 73 | 137 => 75 | 119 => 76 | 224 => 77 | 225 => 78 | 217 => 92 | 266 => 101 | n => n, fun | 9 => 9 | 4 => 4 | 3 => 3 | 5 => 5 | 117 => 74 | 116 => 73 | 0 => 0 | 124 => 77 | 21 => 21 | 105 => 105 | 46 => 39 | 119 => 129 | 139 => 138 | 138 => 137 | n => n, fun | 3 => 0 | 4 => 1 | n => n⟩
theorem YtffcapkjfmkkaaaGreatDoor.lays162b : Go.Proofs.Lays.n162 Tryz.prog YtffcapkjfmkkaaaGreatDoor.lays162b_ren := {
  mixed := by kernel_rfl
  f119 := Tryz.func76.trans (congrArg some (by kernel_rfl))
  f120 := Tryz.func74.trans (congrArg some (by kernel_rfl))
  f137 := Tryz.func75.trans (congrArg some (by kernel_rfl))
  f151 := Tryz.func59.trans (congrArg some (by kernel_rfl))
  f152 := Tryz.func61.trans (congrArg some (by kernel_rfl))
  f162 := Tryz.func81.trans (congrArg some (by kernel_rfl))
  f197 := Tryz.func58.trans (congrArg some (by kernel_rfl))
  f217 := Tryz.func92.trans (congrArg some (by kernel_rfl))
  f224 := Tryz.func77.trans (congrArg some (by kernel_rfl))
  f225 := Tryz.func78.trans (congrArg some (by kernel_rfl))
  f227 := Tryz.func41.trans (congrArg some (by kernel_rfl))
  f228 := Tryz.func57.trans (congrArg some (by kernel_rfl))
  f232 := Tryz.func40.trans (congrArg some (by kernel_rfl))
  f234 := Tryz.func43.trans (congrArg some (by kernel_rfl))
  f236 := Tryz.func45.trans (congrArg some (by kernel_rfl))
  f260 := Tryz.func73.trans (congrArg some (by kernel_rfl))
  f266 := Tryz.func101.trans (congrArg some (by kernel_rfl))
  f271 := Tryz.func60.trans (congrArg some (by kernel_rfl))
  t0 := Tryz.underlying0
  a0 := Tryz.isAgg0
  z0 := Tryz.sizeOf0
  v0 := Tryz.zeroValue0
  t3 := Tryz.underlying3
  a3 := Tryz.isAgg3
  z3 := Tryz.sizeOf3
  v3 := Tryz.zeroValue3
  t4 := Tryz.underlying4
  a4 := Tryz.isAgg4
  z4 := Tryz.sizeOf4
  v4 := Tryz.zeroValue4
  t5 := Tryz.underlying5
  a5 := Tryz.isAgg5
  z5 := Tryz.sizeOf5
  v5 := Tryz.zeroValue5
  t9 := Tryz.underlying9
  a9 := Tryz.isAgg9
  z9 := Tryz.sizeOf9
  v9 := Tryz.zeroValue9
  t21 := Tryz.underlying21
  a21 := Tryz.isAgg21
  z21 := Tryz.sizeOf21
  v21 := Tryz.zeroValue21
  t46 := Tryz.underlying39
  a46 := Tryz.isAgg39
  z46 := Tryz.sizeOf39
  v46 := Tryz.zeroValue39
  t105 := Tryz.underlying105
  a105 := Tryz.isAgg105
  z105 := Tryz.sizeOf105
  v105 := Tryz.zeroValue105
  t116 := Tryz.underlying73
  a116 := Tryz.isAgg73
  z116 := Tryz.sizeOf73
  t117 := Tryz.underlying74
  a117 := Tryz.isAgg74
  z117 := Tryz.sizeOf74
  v117 := Tryz.zeroValue74
  t119 := Tryz.underlying129
  a119 := Tryz.isAgg129
  z119 := Tryz.sizeOf129
  t124 := Tryz.underlying77
  a124 := Tryz.isAgg77
  z124 := Tryz.sizeOf77
  v124 := Tryz.zeroValue77
  t138 := Tryz.underlying137
  a138 := Tryz.isAgg137
  z138 := Tryz.sizeOf137
  v138 := Tryz.zeroValue137
  t139 := Tryz.underlying138
  a139 := Tryz.isAgg138
  z139 := Tryz.sizeOf138
  v139 := Tryz.zeroValue138
  g3 := by kernel_rfl
  g4 := by kernel_rfl }
theorem YtffcapkjfmkkaaaGreatDoor.strings_TrimRight_laid (s cutset : ByteArray) (w : World) (hs : s.size ≤ 9223372036854775807) (hcs : cutset.size < 4294967281) (hascii : ∀ (j : Nat) b, cutset.data.toList[j]? = some b → b.toNat < 128) :
    Calls Tryz.prog 81 #[.string s, .string cutset] w fun e w' => e = .returned (.string ⟨(Lib.trimRightS s.data.toList cutset.data.toList).toArray⟩) ∧ Go.RowKit.Below w.heap.size w w' := Any.strings_TrimRight_laid YtffcapkjfmkkaaaGreatDoor.lays162b (by kernel_rfl) s cutset w hs hcs hascii
def YtffcapkjfmkkaaaGreatDoor.lays160b_ren : Go.Shelf.Ren := ⟨fun | 160 => 27 | 232 => 40 | 231 => 39 | 227 => 41 | 234 => 43 | 233 => 42 | 236 => 45 | 235 => 44 | 228 => 57 | 271 => 60 | 151 => 59 | 197 => 58 | 120 => 74 | 152 => 61 | 260 => 73 | 137 => 75 | 119 => 76 | 224 => 77 | 225 => 78 | 217 => 92 | 266 => 101 | n => n, fun | 9 => 9 | 4 => 4 | 3 => 3 | 5 => 5 | 117 => 74 | 116 => 73 | 0 => 0 | 124 => 77 | 21 => 21 | 105 => 105 | 46 => 39 | 119 => 129 | 139 => 138 | 138 => 137 | n => n, fun | 3 => 0 | 4 => 1 | n => n⟩
theorem YtffcapkjfmkkaaaGreatDoor.lays160b : Go.Proofs.Lays.n160 Tryz.prog YtffcapkjfmkkaaaGreatDoor.lays160b_ren := {
  mixed := by kernel_rfl
  f119 := Tryz.func76.trans (congrArg some (by kernel_rfl))
  f120 := Tryz.func74.trans (congrArg some (by kernel_rfl))
  f137 := Tryz.func75.trans (congrArg some (by kernel_rfl))
  f151 := Tryz.func59.trans (congrArg some (by kernel_rfl))
  f152 := Tryz.func61.trans (congrArg some (by kernel_rfl))
  f160 := Tryz.func27.trans (congrArg some (by kernel_rfl))
  f197 := Tryz.func58.trans (congrArg some (by kernel_rfl))
  f217 := Tryz.func92.trans (congrArg some (by kernel_rfl))
  f224 := Tryz.func77.trans (congrArg some (by kernel_rfl))
  f225 := Tryz.func78.trans (congrArg some (by kernel_rfl))
  f227 := Tryz.func41.trans (congrArg some (by kernel_rfl))
  f228 := Tryz.func57.trans (congrArg some (by kernel_rfl))
  f231 := Tryz.func39.trans (congrArg some (by kernel_rfl))
  f232 := Tryz.func40.trans (congrArg some (by kernel_rfl))
  f233 := Tryz.func42.trans (congrArg some (by kernel_rfl))
  f234 := Tryz.func43.trans (congrArg some (by kernel_rfl))
  f235 := Tryz.func44.trans (congrArg some (by kernel_rfl))
  f236 := Tryz.func45.trans (congrArg some (by kernel_rfl))
  f260 := Tryz.func73.trans (congrArg some (by kernel_rfl))
  f266 := Tryz.func101.trans (congrArg some (by kernel_rfl))
  f271 := Tryz.func60.trans (congrArg some (by kernel_rfl))
  t0 := Tryz.underlying0
  a0 := Tryz.isAgg0
  z0 := Tryz.sizeOf0
  v0 := Tryz.zeroValue0
  t3 := Tryz.underlying3
  a3 := Tryz.isAgg3
  z3 := Tryz.sizeOf3
  v3 := Tryz.zeroValue3
  t4 := Tryz.underlying4
  a4 := Tryz.isAgg4
  z4 := Tryz.sizeOf4
  v4 := Tryz.zeroValue4
  t5 := Tryz.underlying5
  a5 := Tryz.isAgg5
  z5 := Tryz.sizeOf5
  v5 := Tryz.zeroValue5
  t9 := Tryz.underlying9
  a9 := Tryz.isAgg9
  z9 := Tryz.sizeOf9
  v9 := Tryz.zeroValue9
  t21 := Tryz.underlying21
  a21 := Tryz.isAgg21
  z21 := Tryz.sizeOf21
  v21 := Tryz.zeroValue21
  t46 := Tryz.underlying39
  a46 := Tryz.isAgg39
  z46 := Tryz.sizeOf39
  v46 := Tryz.zeroValue39
  t105 := Tryz.underlying105
  a105 := Tryz.isAgg105
  z105 := Tryz.sizeOf105
  v105 := Tryz.zeroValue105
  t116 := Tryz.underlying73
  a116 := Tryz.isAgg73
  z116 := Tryz.sizeOf73
  t117 := Tryz.underlying74
  a117 := Tryz.isAgg74
  z117 := Tryz.sizeOf74
  v117 := Tryz.zeroValue74
  t119 := Tryz.underlying129
  a119 := Tryz.isAgg129
  z119 := Tryz.sizeOf129
  t124 := Tryz.underlying77
  a124 := Tryz.isAgg77
  z124 := Tryz.sizeOf77
  v124 := Tryz.zeroValue77
  t138 := Tryz.underlying137
  a138 := Tryz.isAgg137
  z138 := Tryz.sizeOf137
  v138 := Tryz.zeroValue137
  t139 := Tryz.underlying138
  a139 := Tryz.isAgg138
  z139 := Tryz.sizeOf138
  v139 := Tryz.zeroValue138
  g3 := by kernel_rfl
  g4 := by kernel_rfl }
theorem YtffcapkjfmkkaaaGreatDoor.strings_Trim_laid (s cutset : ByteArray) (w : World) (hs : s.size ≤ 9223372036854775807) (hcs : cutset.size < 4294967281) (hascii : ∀ (j : Nat) b, cutset.data.toList[j]? = some b → b.toNat < 128) :
    Calls Tryz.prog 27 #[.string s, .string cutset] w fun e w' => e = .returned (.string ⟨(Lib.trimS s.data.toList cutset.data.toList).toArray⟩) ∧ Go.RowKit.Below w.heap.size w w' := Any.strings_Trim_laid YtffcapkjfmkkaaaGreatDoor.lays160b (by kernel_rfl) s cutset w hs hcs hascii
end Go.Proofs
namespace Go.Proofs.YtffcapkjfmkkaaaGreatDoor
open Go.RowKit
def gT2 (ns : List Nod) (k : Nat) : Bool := if h : 0 < k ∧ k < ns.length then pairT (ns[k - 1]'(by omega)) (ns[k]'h.2) else true
def gH (ns : List Nod) (k : Nat) : Bool := if k = 0 then decide ((ns.head?.map Nod.deep) = some 0) else gateD ns k
def eOK (n : Nod) : Bool := nameB n.name && attrsB n.attrs && signsB n.text && decide (trimB n.text = n.text)
theorem elem_e (n : Nod) : elemOK n = (decide (n.deep < 8) && eOK n) := by simp [elemOK, eOK, Bool.and_assoc]
theorem gT2_succ (ns : List Nod) (k : Nat) : gT2 ns (k + 1) = gateT ns k := by
  unfold gT2 gateT
  by_cases h : k + 1 < ns.length
  · rw [dif_pos ⟨by omega, h⟩, dif_pos h]; rfl
  · rw [dif_neg (by omega), dif_neg h]
theorem chain_round (ns : List Nod) (k : Nat) (h : k < ns.length) (hD : (gH ns k && decide (ns[k].deep < 8)) = true) (hE : eOK ns[k] = true) (hT : gT2 ns k = true) :
    (gT2 ns k && (gH ns k && chainB (ns.drop k))) = (gT2 ns (k + 1) && (gH ns (k + 1) && chainB (ns.drop (k + 1)))) := by
  rw [chain_at ns k h, elem_e, hE, hT, gT2_succ]
  simp at hD
  rw [show gH ns (k + 1) = gateD ns (k + 1) from if_neg (by omega), hD.1, decide_eq_true hD.2]; simp
theorem chain_bad (ns : List Nod) (k : Nat) (h : k < ns.length) (hb : ((gH ns k && decide (ns[k].deep < 8)) && (eOK ns[k] && gT2 ns k)) = false) :
    (gT2 ns k && (gH ns k && chainB (ns.drop k))) = false := by
  rw [chain_at ns k h, elem_e]
  cases hh : gH ns k <;> cases he : eOK ns[k] <;> cases ht : gT2 ns k <;> cases h8 : decide (ns[k].deep < 8) <;> simp_all
theorem attrs_val (u : Value) (ps : List Par) (w : World) (hp : RPar w u ps) (hlen : ps.length < maxLen) (b : Bool) (h : attrsB ps = b) :
    Calls Tryz.prog 25 #[u] w fun e w' => e = .returned (.bool b) ∧ Below w.heap.size w w' := by
  subst h; exact attrs_walk u ps w hp hlen
def blanks4 : Bs := [32, 9, 13, 10]
theorem rdrop_cons (p : UInt8 → Bool) (c : UInt8) (t : Bs) : ((c :: t).reverse.dropWhile p).reverse = if (t.reverse.dropWhile p) = [] then (if p c then [] else [c]) else c :: (t.reverse.dropWhile p).reverse := by
  rw [List.reverse_cons, List.dropWhile_append]
  cases h : t.reverse.dropWhile p with
  | nil => cases hc : p c <;> simp [hc]
  | cons x l => simp
theorem trim_comm (p : UInt8 → Bool) (l : Bs) : ((l.reverse.dropWhile p).reverse).dropWhile p = ((l.dropWhile p).reverse.dropWhile p).reverse := by
  induction l with
  | nil => rfl
  | cons c t ih =>
    by_cases hc : p c = true
    · rw [rdrop_cons, show (c :: t).dropWhile p = t.dropWhile p from by rw [List.dropWhile_cons, if_pos hc], ← ih]
      split
      · rename_i h; rw [h]; simp
      · rw [List.dropWhile_cons, if_pos hc]
    · rw [List.dropWhile_cons, if_neg hc, rdrop_cons]
      split
      · simp [hc]
      · rw [List.dropWhile_cons, if_neg hc]
theorem dropW_while (p : UInt8 → Bool) (l : Bs) : dropW p l = l.dropWhile p := by
  induction l with
  | nil => rfl
  | cons c t ih => rw [dropW, List.dropWhile_cons, ih]; try (cases p c <;> rfl)
theorem blank_contains (c : UInt8) : blankB c = blanks4.contains c := by
  unfold blankB blanks4; rw [hasB_iff]; simp
theorem trimB_S (l : Bs) : Lib.trimS l blanks4 = trimB l := by
  unfold Lib.trimS Lib.trimLeftS Lib.trimRightS trimB trimR
  have : (fun x => blanks4.contains x) = blankB := funext fun c => (blank_contains c).symm
  rw [this, dropW_while, dropW_while, trim_comm]
theorem blanks_ascii (j : Nat) (b : UInt8) (h : blanks4[j]? = some b) : b.toNat < 128 :=
  (by decide : ∀ b ∈ blanks4, b.toNat < 128) b (List.mem_of_getElem? h)
theorem Trim_val (l : Bs) (w : World) (hs : l.length ≤ maxLen) (t : Bs) (h : trimB l = t) :
    Calls Tryz.prog 27 #[.string ⟨l.toArray⟩, .string ⟨blanks4.toArray⟩] w fun e w' => e = .returned (.string ⟨t.toArray⟩) ∧ Below w.heap.size w w' := by
  subst h
  refine (strings_Trim_laid ⟨l.toArray⟩ ⟨blanks4.toArray⟩ w (by unfold maxLen at hs; exact hs) (by decide) blanks_ascii).mono ?_
  rintro e w' ⟨rfl, hb⟩
  exact ⟨ret_str (trimB_S l), hb⟩
set_option maxRecDepth 100000 in
set_option maxHeartbeats 8000000 in
theorem Check_walk (u : Value) (ns : List Nod) (w : World) (hp : RNod w u ns) (hpl : ∀ n ∈ ns, n.attrs.length < maxLen) :
    Calls Tryz.prog 12 #[u] w fun e w' => e = .returned (.int .i64 (chkI (checkB ns))) ∧ Below w.heap.size w w' := by
  have hp0 := hp
  obtain ⟨A, c, rfl, -, hm, -⟩ := hp
  by_cases h12 : 1 ≤ ns.length ∧ ns.length ≤ 200
  · have HC : Hid (checkB ns = (decide ((ns.head?.map Nod.deep) = some 0) && chainB ns)) := by
      show _ = _; unfold checkB; simp [h12]
    have zl1 : ((ns.length : Int) == 0) = false := by rw [beq_eq_false_iff_ne]; omega
    have zl2 : decide (200 < (ns.length : Int)) = false := by simp; omega
    go_enter Tryz.func12, Tryz.ntmps12
    go_wp2
    go_loopw [15, 3, 4] (fun i _ _ wr => ∃ k : Nat, k ≤ ns.length ∧ i = .int .i64 k ∧ checkB ns = (gT2 ns k && (gH ns k && chainB (ns.drop k))) ∧ (∀ j (hj : j < ns.length), j + 1 = k → 0 ≤ ns[j].deep ∧ ns[j].deep < 8) ∧ Below w.heap.size w wr) (fun i _ _ _ => ns.length - (intOf i).toNat)
    case atStart => exact ⟨0, by omega, rfl, by rw [HC.out]; simp [gT2, gH], fun j hj e => by omega, Below.refl _ _⟩
    case round =>
      obtain ⟨k, hk, rfl, ht, hpv, hb⟩ := hrel
      have HT := Lib.hid ht
      have HPV := Lib.hid hpv
      clear ht hpv
      by_cases hlt : k < ns.length
      · obtain ⟨a', vk, ha', k0, k1, k2, hatt, k3, n1, n2⟩ := (hp0.keep hb).at_ k hlt
        cases ha'
        have hatt0 := hatt
        obtain ⟨A2, c2, rfl, -⟩ := hatt
        have HN := Lib.hid n1
        have HX := Lib.hid n2
        clear n1 n2
        have hret : ((gH ns k && decide (ns[k].deep < 8)) && (eOK ns[k] && gT2 ns k)) = false → ∀ w', Below w.heap.size w w' → (Ending.returned (.int .i64 130) = .returned (.int .i64 (chkI (checkB ns))) ∧ Below w.heap.size w w') := fun h w' h' =>
          ⟨ret_int (by rw [HT.out, chain_bad ns k hlt h]; rfl), h'⟩
        have HRET := Lib.hid hret
        clear hret
        have hin : Below wr.heap.size wr (wr.alloc (nodRow ns[k] (.slice A2 ns[k].attrs.length c2))) := (Below.refl _ _).alloc (Nat.le_refl _) _
        go_upto_region 6 with (fail)
        go_cut [20] (fun v w2 => v = .bool (decide (k = 0) && !decide (ns[k].deep = 0)) ∧ Dr (wr.alloc (nodRow ns[k] (.slice A2 ns[k].attrs.length c2))) w2)
        case first =>
          have c0 := new_cell wr #[.int .i64 ns[k].deep, .string ⟨ns[k].name.toArray⟩, (.slice A2 ns[k].attrs.length c2), .string ⟨ns[k].text.toArray⟩] 46 0
          by_cases hk0 : k = 0
          · have e0 : ((k : Int) == 0) = true := by simp; omega
            by_cases d0 : ns[k].deep = 0
            · have z0 : (ns[k].deep != 0) = false := by simp [d0]
              have HF : Hid ((decide (k = 0) && !decide (ns[k].deep = 0)) = false) := by show _ = _; simp [d0]
              clear hk0 d0
              go_wp2_with fail
              go_meet
              exact ⟨by rw [HF.out], Dr.refl _⟩
            · have z0 : (ns[k].deep != 0) = true := by simp [d0]
              have HF : Hid ((decide (k = 0) && !decide (ns[k].deep = 0)) = true) := by show _ = _; rw [decide_eq_true hk0, decide_eq_false d0]; rfl
              clear hk0 d0
              go_wp2_with fail
              go_meet
              exact ⟨by rw [HF.out], Dr.refl _⟩
          · have e0 : ((k : Int) == 0) = false := by rw [beq_eq_false_iff_ne]; omega
            have HF : Hid ((decide (k = 0) && !decide (ns[k].deep = 0)) = false) := by show _ = _; simp [hk0]
            clear hk0
            go_wp2_with fail
            go_meet
            exact ⟨by rw [HF.out], Dr.refl _⟩
        case rest =>
        obtain ⟨rfl, hd1⟩ := hcut
        have hcell1 : ∀ j, wc.cell? ⟨wr.heap.size, j, none⟩ = (#[.int .i64 ns[k].deep, .string ⟨ns[k].name.toArray⟩, (.slice A2 ns[k].attrs.length c2), .string ⟨ns[k].text.toArray⟩] : Array Value)[j]? := fun j => by
          obtain ⟨n, rfl⟩ := hd1
          exact new_cell wr #[.int .i64 ns[k].deep, .string ⟨ns[k].name.toArray⟩, (.slice A2 ns[k].attrs.length c2), .string ⟨ns[k].text.toArray⟩] 46 j
        have hbw1 := hd1.below hin
        generalize hb6 : (decide (k = 0) && !decide (ns[k].deep = 0)) = b6
        have HB6 := Lib.hid hb6
        clear hb6
        go_upto_if 20 with (fail)
        go_cut [20] (fun v w2 => v = .bool (!(gH ns k && decide (ns[k].deep < 8))) ∧ Dr wc w2)
        case first =>
          have c0 := hcell1 0
          cases b6
          · rcases Nat.eq_zero_or_pos k with hk0 | hk0
            · have e1 : decide (0 < (k : Int)) = false := by simp; omega
              have HF : Hid ((gH ns k && decide (ns[k].deep < 8)) = true) := by
                have := HB6.out
                simp [hk0] at this
                subst hk0
                show _ = _; unfold gH; rw [if_pos rfl, List.head?_eq_getElem?, List.getElem?_eq_getElem hlt]; simp [this]
              have z8 : decide (8 ≤ ns[k].deep) = false := by have := HB6.out; simp [hk0] at this; subst hk0; simp [this]
              have hk1 : k ≤ 0 := by omega
              have hzn : decide (0 < k) = false := by simp; omega
              have hz : decide ((k : Int) > 0) = false := by simp; omega
              clear hk0
              go_wp2_with fail
              go_quiet (fail)
              (try go_wp2_with fail)
              go_meet
              exact ⟨by rw [HF.out]; rfl, ⟨_, rfl⟩⟩
            · have e1 : decide (0 < (k : Int)) = true := by simp; omega
              have hp1 : k - 1 < ns.length := by omega
              obtain ⟨a2, v2, ha2, p0, -⟩ := (hp0.keep hb).at_ (k - 1) hp1
              cases ha2
              have p1 := cell_keep hbw1 p0
              have hpb := HPV.out (k - 1) hp1 (by omega)
              have HGD : Hid (gH ns k = pairD ns[k - 1] ns[k]) := by show _ = _; unfold gH gateD; rw [if_neg (by omega), dif_pos ⟨hk0, hlt⟩]
              clear p0
              by_cases d1 : 1 ≤ ns[k].deep
              · have z1 : decide (ns[k].deep < 1) = false := by simp; omega
                have w1 : IntKind.i64.wrap (ns[k - 1].deep + 1) = ns[k - 1].deep + 1 := IntWalk.i64_in _ (by omega)
                by_cases d2 : ns[k].deep ≤ ns[k - 1].deep + 1
                · have z2 : decide (ns[k - 1].deep + 1 < ns[k].deep) = false := by simp; omega
                  by_cases d8 : ns[k].deep < 8
                  · have z8 : decide (8 ≤ ns[k].deep) = false := by simp; omega
                    have HF : Hid ((gH ns k && decide (ns[k].deep < 8)) = true) := by show _ = _; rw [HGD.out]; simp [pairD, d1, d2, d8]
                    go_wp2_with fail
                    go_quiet (fail)
                    (try go_wp2_with fail)
                    go_meet
                    exact ⟨by rw [HF.out]; rfl, ⟨_, rfl⟩⟩
                  · have z8 : decide (8 ≤ ns[k].deep) = true := by simp; omega
                    have HF : Hid ((gH ns k && decide (ns[k].deep < 8)) = false) := by show _ = _; rw [decide_eq_false d8]; simp
                    go_wp2_with fail
                    go_quiet (fail)
                    (try go_wp2_with fail)
                    go_meet
                    exact ⟨by rw [HF.out]; rfl, ⟨_, rfl⟩⟩
                · have z2 : decide (ns[k - 1].deep + 1 < ns[k].deep) = true := by simp; omega
                  have HF : Hid ((gH ns k && decide (ns[k].deep < 8)) = false) := by show _ = _; rw [HGD.out]; simp [pairD, d2]
                  go_wp2_with fail
                  go_quiet (fail)
                  (try go_wp2_with fail)
                  go_meet
                  exact ⟨by rw [HF.out]; rfl, ⟨_, rfl⟩⟩
              · have z1 : decide (ns[k].deep < 1) = true := by simp; omega
                have HF : Hid ((gH ns k && decide (ns[k].deep < 8)) = false) := by show _ = _; rw [HGD.out]; simp [pairD, d1]
                go_wp2_with fail
                go_quiet (fail)
                (try go_wp2_with fail)
                go_meet
                exact ⟨by rw [HF.out]; rfl, ⟨_, rfl⟩⟩
          · have HF : Hid ((gH ns k && decide (ns[k].deep < 8)) = false) := by
              have := HB6.out
              simp at this
              obtain ⟨hk0, h2⟩ := this
              subst hk0
              show _ = _; unfold gH; rw [if_pos rfl, List.head?_eq_getElem?, List.getElem?_eq_getElem hlt]; simp [h2]
            go_wp2_with fail
            go_meet
            exact ⟨by rw [HF.out]; rfl, Dr.refl _⟩
        case rest =>
          obtain ⟨rfl, hd2⟩ := hcut
          have hbw := hd2.below hbw1
          have HBW := Lib.hid (hb.trans (hbw.mono hb.size))
          have hcell : ∀ j, wc.cell? ⟨wr.heap.size, j, none⟩ = (#[.int .i64 ns[k].deep, .string ⟨ns[k].name.toArray⟩, (.slice A2 ns[k].attrs.length c2), .string ⟨ns[k].text.toArray⟩] : Array Value)[j]? := fun j => by
            obtain ⟨n, rfl⟩ := hd2
            exact hcell1 j
          cases hdd : (gH ns k && decide (ns[k].deep < 8))
          · have HF := Lib.hid hdd
            clear hdd
            go_wp2_with fail
            go_ret
            exact HRET.out (by rw [HF.out]; rfl) _ HBW.out
          · have HDD := Lib.hid hdd
            clear hdd
            have HALL : Hid (∀ w3, Below wc.heap.size wc w3 → Below w.heap.size w w3 ∧ w3.cell? ⟨wr.heap.size, 0, none⟩ = some (.int .i64 ns[k].deep) ∧ ∀ (a : Addr) (v : Value), wr.cell? a = some v → w3.cell? a = some v) := fun w3 h =>
              ⟨HBW.out.trans (h.mono HBW.out.size), cell_keep h (hcell 0), fun a v hv => cell_keep (hbw.trans (h.mono hbw.size)) hv⟩
            have c1 := hcell 1
            have c2' := hcell 2
            have c3 := hcell 3
            generalize hb1 : nameB ns[k].name = b1
            have HB1 := Lib.hid hb1
            go_wp2_with fail
            refine (Name_val _ _ HN.out b1 hb1).mono ?_
            clear hb1
            rintro e w2 ⟨rfl, hx2⟩
            have u2x := cell_keep hx2 c2'
            have u3x := cell_keep hx2 c3
            have HX2 := Lib.hid hx2
            clear c1 c2' c3
            go_upto_if 50 with (fail)
            go_cut [50] (fun v w3 => v = .bool (!(eOK ns[k])) ∧ Below wc.heap.size wc w3)
            case first =>
              cases b1
              · have HF : Hid (eOK ns[k] = false) := by show _ = _; simp [eOK, HB1.out]
                go_wp2_with fail
                go_meet
                exact ⟨by simp [HF.out], HX2.out⟩
              · clear hx2
                generalize hb2 : attrsB ns[k].attrs = b2
                have HB2 := Lib.hid hb2
                go_wp2_with fail
                refine (attrs_val _ _ _ (hatt0.keep (hbw.trans (HX2.out.mono hbw.size))) (hpl _ (List.getElem_mem hlt)) b2 hb2).mono ?_
                clear hb2
                rintro e w3 ⟨rfl, hx3⟩
                have t3x := cell_keep hx3 u3x
                have HX3 := Lib.hid (HX2.out.trans (hx3.mono HX2.out.size))
                clear hx3 u2x u3x
                cases b2
                · have HF : Hid (eOK ns[k] = false) := by show _ = _; simp [eOK, HB2.out]
                  go_wp2_with fail
                  go_meet
                  exact ⟨by rw [HF.out]; rfl, HX3.out⟩
                · generalize hb3 : signsB ns[k].text = b3
                  have HB3 := Lib.hid hb3
                  go_wp2_with fail
                  refine (signs_val _ _ HX.out b3 hb3).mono ?_
                  clear hb3
                  rintro e w4 ⟨rfl, hx4⟩
                  have s3x := cell_keep hx4.below0 t3x
                  have HX4 := Lib.hid (hx4.below HX3.out)
                  clear hx4 t3x
                  cases b3
                  · have HF : Hid (eOK ns[k] = false) := by show _ = _; simp [eOK, HB3.out]
                    go_wp2_with fail
                    go_meet
                    exact ⟨by rw [HF.out]; rfl, HX4.out⟩
                  · have HQ : Hid ((trimB ns[k].text != ns[k].text) = !(eOK ns[k])) := by
                      show _ = _; unfold eOK; rw [HB1.out, HB2.out, HB3.out]
                      by_cases e : trimB ns[k].text = ns[k].text <;> simp [e]
                    go_wp2_with fail
                    go_region_with ((go_at_call 27; refine (Trim_val _ _ HX.out _ rfl).mono ?_; rintro e w5 ⟨rfl, hx5⟩; have r3x := cell_keep hx5 s3x; have HX5 := Lib.hid (HX4.out.drew.trans (hx5.mono HX4.out.size))))
                    all_goals
                      go_wp2_with fail
                      go_meet
                      exact ⟨congrArg Value.bool HQ.out, HX5.out⟩
            case rest =>
              obtain ⟨rfl, hb3⟩ := hcut
              obtain ⟨hb4, c0, hkp⟩ := HALL.out _ hb3
              have HB4 := Lib.hid hb4
              have HKP := Lib.hid hkp
              clear hb4 hkp hb3
              cases hee : eOK ns[k]
              · have HE := Lib.hid hee
                clear hee
                go_wp2_with fail
                go_ret
                exact HRET.out (by rw [HE.out]; simp) _ HB4.out
              · have HE := Lib.hid hee
                clear hee
                have hround : gT2 ns k = true → ∀ m, Hid ((∃ k_1, k_1 ≤ ns.length ∧ Value.int IntKind.i64 (↑k + 1) = Value.int IntKind.i64 ↑k_1 ∧ checkB ns = (gT2 ns k_1 && (gH ns k_1 && chainB (ns.drop k_1))) ∧ (∀ j (hj : j < ns.length), j + 1 = k_1 → 0 ≤ ns[j].deep ∧ ns[j].deep < 8) ∧ Below w.heap.size w (wc.drewN m))) := fun h m => by
                  refine ⟨k + 1, by omega, by go_num, by rw [HT.out, chain_round ns k hlt HDD.out HE.out h], fun j hj e => ?_, Dr.below ⟨m, rfl⟩ HB4.out⟩
                  have : j = k := by omega
                  subst this
                  have hg := HDD.out
                  simp at hg
                  refine ⟨?_, hg.2⟩
                  have hg1 := hg.1
                  unfold gH at hg1
                  split at hg1
                  · rename_i h0
                    subst h0
                    rw [List.head?_eq_getElem?, List.getElem?_eq_getElem hlt] at hg1
                    simp at hg1; omega
                  · unfold gateD at hg1
                    rw [dif_pos ⟨by omega, hlt⟩] at hg1
                    simp [pairD] at hg1; omega
                have HRND := Lib.hid hround
                clear hround
                rcases Nat.eq_zero_or_pos k with hk0 | hk0
                · have HG : Hid (gT2 ns k = true) := by show _ = _; unfold gT2; rw [dif_neg (by omega)]
                  have hk1 : k ≤ 0 := by omega
                  have hzn : decide (0 < k) = false := by simp; omega
                  have hz : decide ((k : Int) > 0) = false := by simp; omega
                  have e1 : decide (0 < (k : Int)) = false := by simp; omega
                  clear hk0
                  go_wp2_with fail
                  go_quiet (fail)
                  (try go_wp2_with fail)
                  exact ⟨(HRND.out HG.out _).out, by simp [intOf]; omega⟩
                · have e1 : decide (0 < (k : Int)) = true := by simp; omega
                  have hz : decide ((k : Int) > 0) = true := by simp; omega
                  have hp1 : k - 1 < ns.length := by omega
                  obtain ⟨a2, v2, ha2, p0, -, -, -, p3, -⟩ := (hp0.keep hb).at_ (k - 1) hp1
                  cases ha2
                  have q0 := HKP.out _ _ p0
                  have q3 := HKP.out _ _ p3
                  have hpb := HPV.out (k - 1) hp1 (by omega)
                  have hdl : ns[k].deep ≤ ns[k - 1].deep + 1 := by
                    have hg := HDD.out
                    simp at hg
                    have hg1 := hg.1
                    unfold gH gateD at hg1
                    rw [if_neg (by omega), dif_pos ⟨hk0, hlt⟩] at hg1
                    simp [pairD] at hg1; omega
                  have HGT : Hid (gT2 ns k = pairT ns[k - 1] ns[k]) := by show _ = _; unfold gT2; rw [dif_pos ⟨hk0, hlt⟩]
                  have w1 : IntKind.i64.wrap (ns[k - 1].deep + 1) = ns[k - 1].deep + 1 := IntWalk.i64_in _ (by omega)
                  clear p0 p3
                  by_cases hdp : ns[k].deep = ns[k - 1].deep + 1
                  · have zd : (ns[k].deep == ns[k - 1].deep + 1) = true := by simp [hdp]
                    have HDP := Lib.hid hdp
                    clear hdp
                    by_cases hte : ns[k - 1].text = []
                    · have HG : Hid (gT2 ns k = true) := by show _ = _; rw [HGT.out]; simp [pairT, hte]
                      have zt : ns[k - 1].text.isEmpty = true := by simp [hte]
                      clear hte
                      go_wp2_with fail
                      go_quiet (fail)
                      (try go_wp2_with fail)
                      exact ⟨(HRND.out HG.out _).out, by simp [intOf]; omega⟩
                    · have HG : Hid (gT2 ns k = false) := by show _ = _; rw [HGT.out]; have := HDP.out; simp [pairT, hte]; omega
                      have zt : ns[k - 1].text.isEmpty = false := by simpa using hte
                      clear hte
                      go_wp2_with fail
                      go_quiet (fail)
                      (try go_wp2_with fail)
                      go_ret
                      exact HRET.out (by rw [HG.out]; simp) _ (Dr.below ⟨_, rfl⟩ HB4.out)
                  · have zd : (ns[k].deep == ns[k - 1].deep + 1) = false := by simp [hdp]
                    have HG : Hid (gT2 ns k = true) := by show _ = _; rw [HGT.out]; simp [pairT]; exact .inl (by omega)
                    clear hdp
                    go_wp2_with fail
                    go_quiet (fail)
                    (try go_wp2_with fail)
                    exact ⟨(HRND.out HG.out _).out, by simp [intOf]; omega⟩
      · obtain rfl : k = ns.length := by omega
        go_wp2
        go_ret
        refine ⟨ret_int ?_, hb⟩
        rw [HT.out]
        simp [gT2, gH, gateD, chainB, show ¬ ns.length = 0 by omega, chkI]
  · have HC : Hid (checkB ns = false) := by
      show _ = _; unfold checkB
      by_cases h1 : 1 ≤ ns.length
      · have : ¬ ns.length ≤ 200 := fun h => h12 ⟨h1, h⟩
        simp [this]
      · simp [h1]
    by_cases h1 : 1 ≤ ns.length
    · have h2 : ¬ ns.length ≤ 200 := fun h => h12 ⟨h1, h⟩
      have zl1 : ((ns.length : Int) == 0) = false := by rw [beq_eq_false_iff_ne]; omega
      have zl2 : decide (200 < (ns.length : Int)) = true := by simp; omega
      go_enter Tryz.func12, Tryz.ntmps12
      go_wp2
      go_ret
      exact ⟨ret_int (by rw [HC.out]; rfl), Below.refl _ _⟩
    · have zl1 : ((ns.length : Int) == 0) = true := by rw [beq_iff_eq]; omega
      go_enter Tryz.func12, Tryz.ntmps12
      go_wp2
      go_ret
      exact ⟨ret_int (by rw [HC.out]; rfl), Below.refl _ _⟩
end Go.Proofs.YtffcapkjfmkkaaaGreatDoor
namespace Go.Proofs.YtffcapkjfmkkaaaGreatDoor
open Go.RowKit
/-- The reader stands at s, and has read l. -/
def Rd (w : World) (rb : Nat) (s : ByteArray) (l : Value) : Prop := w.heap[rb]? = some (.cells #[.string s, l] 83 (0, 0))
theorem Rd.set {w : World} {rb : Nat} {s : ByteArray} {l : Value} (h : Rd w rb s l) (s' : ByteArray) : Rd (w.setCell ⟨rb, 0, none⟩ (.string s')) rb s' l := by
  have := setCell_same h 0 (.string s')
  exact this
theorem Rd.s {w : World} {rb : Nat} {s : ByteArray} {l : Value} (h : Rd w rb s l) : w.cell? ⟨rb, 0, none⟩ = some (.string s) := blk_cell h 0
theorem Rd.l {w : World} {rb : Nat} {s : ByteArray} {l : Value} (h : Rd w rb s l) : w.cell? ⟨rb, 1, none⟩ = some l := blk_cell h 1
theorem Rd.f {w : World} {rb : Nat} {s : ByteArray} {l : Value} (h : Rd w rb s l) : w.frozen? ⟨rb, 0, none⟩ = false := frozen0 h 0
/-- What the reader gives up with. -/
abbrev gaveUp : Ending := .panicked [{ v := .iface 80 (.agg #[]), recovered := false }]
theorem fail_walk (rb : Nat) (w : World) :
    Calls Tryz.prog 65 #[.pointer (some ⟨rb, 0, none⟩)] w fun e w' => e = gaveUp ∧ w' = w := by
  go_enter Tryz.func65, Tryz.ntmps65
  go_wp2
  exact ⟨rfl, rfl, rfl⟩
/-- A step of the reader: it stands at r then; nothing else that was there is turned. -/
def Stp (w : World) (rb : Nat) (r : Bs) (l : Value) (w' : World) : Prop := Rd w' rb ⟨r.toArray⟩ l ∧ w.grownBy w' (some rb)
theorem Rd.lt {w : World} {rb : Nat} {s : ByteArray} {l : Value} (h : Rd w rb s l) : rb < w.heap.size := (Array.getElem?_eq_some_iff.1 h).1
theorem Rd.below {w w' : World} {rb : Nat} {s : ByteArray} {l : Value} (h : Rd w rb s l) (hb : Below w.heap.size w w') : Rd w' rb s l := (hb.block _ h.lt).trans h
theorem Rd.stp {w : World} {rb : Nat} {s : ByteArray} {l : Value} (h : Rd w rb s l) (r : Bs) : Stp w rb r l (w.setCell ⟨rb, 0, none⟩ (.string ⟨r.toArray⟩)) := ⟨h.set _, setCell_grown _ _ _ _⟩
theorem Rd.stp_below {w w1 : World} {rb : Nat} {s : ByteArray} {l : Value} (h : Rd w rb s l) (hb : Below w.heap.size w w1) (r : Bs) : Stp w rb r l (w1.setCell ⟨rb, 0, none⟩ (.string ⟨r.toArray⟩)) :=
  ⟨(h.below hb).set _, below_then hb (setCell_grown _ _ _ _)⟩
theorem Stp.trans {w w1 w2 : World} {rb : Nat} {r r2 : Bs} {l : Value} (h : Stp w rb r l w1) (k : Stp w1 rb r2 l w2) : Stp w rb r2 l w2 := ⟨k.1, h.2.trans k.2⟩
theorem may_walk (rb : Nat) (s t : ByteArray) (l : Value) (w : World) (hr : Rd w rb s l) :
    Calls Tryz.prog 49 #[.pointer (some ⟨rb, 0, none⟩), .string t] w fun e w' => e = .returned (.bool (Lib.hasPrefix s.data.toList t.data.toList)) ∧
      Stp w rb (Lib.trimPrefix s.data.toList t.data.toList) l w' := by
  have h0 := hr.s
  have h1 := hr.f
  go_enter Tryz.func49, Tryz.ntmps49
  go_wp2_with (go_at_call 63; refine (strings_CutPrefix _ _ _).mono ?_; rintro e w' ⟨rfl, rfl⟩)
  go_ret
  exact ⟨rfl, Rd.stp (by assumption) _⟩
theorem may_val (rb : Nat) (s t : ByteArray) (l : Value) (w : World) (hr : Rd w rb s l) (T : Bs) (hT : t.data.toList = T) (b : Bool) (h : Lib.hasPrefix s.data.toList T = b) :
    Calls Tryz.prog 49 #[.pointer (some ⟨rb, 0, none⟩), .string t] w fun e w' => e = .returned (.bool b) ∧
      Stp w rb (if b then s.data.toList.drop T.length else s.data.toList) l w' := by
  subst hT h
  refine (may_walk rb s t l w hr).mono ?_
  rintro e w' ⟨rfl, h⟩
  exact ⟨rfl, h⟩
theorem take_walk (rb : Nat) (s t : ByteArray) (l : Value) (w : World) (hr : Rd w rb s l) (T : Bs) (hT : t.data.toList = T) (b : Bool) (h : Lib.hasPrefix s.data.toList T = b) :
    Calls Tryz.prog 51 #[.pointer (some ⟨rb, 0, none⟩), .string t] w fun e w' => (if b then e = .returned (.tuple #[]) else e = gaveUp) ∧
      Stp w rb (if b then s.data.toList.drop T.length else s.data.toList) l w' := by
  go_enter Tryz.func51, Tryz.ntmps51
  go_wp2_with fail
  refine (may_val rb s t l w hr T hT b h).mono ?_
  rintro e w' ⟨rfl, hst⟩
  cases b
  · go_wp2_with fail
    refine (fail_walk rb _).mono ?_
    rintro e w2 ⟨rfl, rfl⟩
    go_wp2
    exact ⟨rfl, rfl, hst⟩
  · go_wp2_with fail
    refine bodyPost_end (v := .tuple #[]) (by simp [results, Tryz.results51, go_sem]) rfl ⟨rfl, ?_⟩
    simpa using hst
theorem trimL_S (l : Bs) : Lib.trimLeftS l blanks4 = dropW blankB l := by
  unfold Lib.trimLeftS
  have : (fun x => blanks4.contains x) = blankB := funext fun c => (blank_contains c).symm
  rw [this, dropW_while]
theorem blank_walk (rb : Nat) (s : ByteArray) (l : Value) (w : World) (hr : Rd w rb s l) :
    Calls Tryz.prog 52 #[.pointer (some ⟨rb, 0, none⟩)] w fun e w' => e = .returned (.tuple #[]) ∧ Stp w rb (dropW blankB s.data.toList) l w' := by
  have h0 := hr.s
  have h1 := hr.f
  go_enter Tryz.func52, Tryz.ntmps52
  go_wp2_with fail
  refine (strings_TrimLeft_laid _ _ _ (by decide) blanks_ascii).mono ?_
  rintro e w1 ⟨rfl, hb⟩
  have g1 := (hr.below hb).f
  have g0 := (hr.below hb).s
  have HB := Lib.hid hb
  go_wp2_with fail
  refine bodyPost_end (v := .tuple #[]) (by simp [results, Tryz.results52, go_sem]) rfl ⟨rfl, ?_⟩
  have := hr.stp_below HB.out (dropW blankB s.data.toList)
  rw [← trimL_S] at *
  exact this
end Go.Proofs.YtffcapkjfmkkaaaGreatDoor
namespace Go.Proofs.YtffcapkjfmkkaaaGreatDoor
open Go.RowKit
theorem get_D (s : ByteArray) (j : Nat) (h : j < s.size) : s.data.toList.getD j 0 = s[j] := by
  rw [List.getD_eq_getElem?_getD, List.getElem?_eq_getElem (by rw [size_list]; exact h), get_list s j h]; rfl
/-- A byte from 128 on: what it begins is high throughout. -/
theorem dec_high (s : ByteArray) (p : Nat) (h : p < s.size) (hi : 128 ≤ s[p].toNat) :
    128 ≤ (Utf8.decode s p).1 ∧ 1 ≤ (Utf8.decode s p).2 ∧ p + (Utf8.decode s p).2 ≤ s.size ∧ ∀ j (hj : j < s.size), p ≤ j → j < p + (Utf8.decode s p).2 → 128 ≤ s[j].toNat := by
  have h1 := decode_high s p h hi
  refine ⟨h1.1, h1.2, ?_⟩
  have key : ∀ n b0 b1 b2 b3 : Nat, 1 ≤ n → (Lib.decodeN n b0 b1 b2 b3).2 ≤ n ∧ (2 ≤ (Lib.decodeN n b0 b1 b2 b3).2 → 128 ≤ b1) ∧ (3 ≤ (Lib.decodeN n b0 b1 b2 b3).2 → 128 ≤ b2) ∧ (4 ≤ (Lib.decodeN n b0 b1 b2 b3).2 → 128 ≤ b3) ∧ (Lib.decodeN n b0 b1 b2 b3).2 ≤ 4 := by
    intro n b0 b1 b2 b3 hn
    unfold Lib.decodeN
    repeat' split
    all_goals (refine ⟨?_, ?_, ?_, ?_, ?_⟩ <;> simp <;> omega)
  have hk := key (s.data.toList.length - p) (s.data.toList.getD p 0).toNat (s.data.toList.getD (p + 1) 0).toNat (s.data.toList.getD (p + 2) 0).toNat (s.data.toList.getD (p + 3) 0).toNat (by rw [size_list]; omega)
  rw [← Lib.decode_N, size_list] at hk
  refine ⟨by omega, fun j hj hpj hjn => ?_⟩
  obtain ⟨k1, k2, k3, k4, k5⟩ := hk
  have : j = p ∨ j = p + 1 ∨ j = p + 2 ∨ j = p + 3 := by omega
  rcases this with rfl | rfl | rfl | rfl
  · exact hi
  · have := k2 (by omega); rwa [get_D s _ hj] at this
  · have := k3 (by omega); rwa [get_D s _ hj] at this
  · have := k4 (by omega); rwa [get_D s _ hj] at this
theorem hasB_high (T : Bs) (hT : ∀ b ∈ T, b.toNat < 128) (c : UInt8) (hc : 128 ≤ c.toNat) : hasB T c = false := by
  rw [hasB_iff]; simp; intro hm; have := hT c hm; omega
theorem dropW_skip (f : UInt8 → Bool) (s : ByteArray) (n p : Nat) (h : p + n ≤ s.size) (hj : ∀ j (hj : j < s.size), p ≤ j → j < p + n → f s[j] = true) : dropW f (s.data.toList.drop p) = dropW f (s.data.toList.drop (p + n)) := by
  induction n generalizing p with
  | zero => rfl
  | succ n ih =>
    rw [drop_cons s p (by omega), dropW, if_pos (hj p (by omega) (by omega) (by omega)), ih (p + 1) (by omega) (fun j hj' h1 h2 => hj j hj' (by omega) (by omega))]
    rw [show p + 1 + n = p + (n + 1) from by omega]
def anyI (T : Bs) (l : Bs) : Int := if posW (notIn T) l 0 < l.length then (posW (notIn T) l 0 : Nat) else -1
/-- The iterator in block k moves on. -/
theorem next_some (w : World) (k : Nat) (s : ByteArray) (p : Nat) (hk : w.heap[k]? = some (.stringIter s p)) (h : p < s.size) :
    ∃ (w1 : World) (c : Nat) (n : Nat), (∀ ty, (Instr.next (.pointer (some ⟨k, 0, none⟩)) true ty).run Tryz.prog w = .ok (.tuple #[.bool true, .int .i64 p, .int .i32 c]) w1) ∧ w1.heap[k]? = some (.stringIter s (p + n)) ∧
      (∀ B a, Below B a w → B ≤ k → Below B a w1) ∧ (∀ j, j ≠ k → w1.heap[j]? = w.heap[j]?) ∧ w1.heap.size = w.heap.size ∧ 1 ≤ n ∧ p + n ≤ s.size ∧
      ((s[p].toNat < 128 ∧ c = s[p].toNat ∧ n = 1) ∨ (128 ≤ s[p].toNat ∧ 128 ≤ c ∧ ∀ j (hj : j < s.size), p ≤ j → j < p + n → 128 ≤ s[j].toNat)) := by
  refine ⟨_, _, _, fun ty => Lib.run_next_any_at (P := Tryz.prog) w k s p ty hk h, Lib.iterAt_heap w k s p _ hk, fun B a hb hB => Lib.below_iterAt hb hB _ _, fun j hj => Lib.iterAt_other w k j s _ hj, Lib.iterAt_size _ _ _ _, ?_⟩
  by_cases hi : s[p].toNat < 128
  · rw [decode_ascii s p h hi]; exact ⟨by simp, by omega, .inl ⟨hi, rfl, rfl⟩⟩
  · have := dec_high s p h (by omega)
    exact ⟨this.2.1, this.2.2.1, .inr ⟨by omega, this.1, this.2.2.2⟩⟩
set_option maxHeartbeats 4000000 in
theorem anyAt_walk (s t : ByteArray) (w : World) (hT : ∀ b ∈ t.data.toList, b.toNat < 128) :
    Calls Tryz.prog 64 #[.string s, .string t] w fun e w' => e = .returned (.int .i64 (anyI t.data.toList s.data.toList)) ∧ Below w.heap.size w w' := by
  have HTT := Lib.hid hT
  clear hT
  go_enter Tryz.func64, Tryz.ntmps64
  go_wp2
  go_loopg [5, 6, 8] s.size (fun g _ _ _ wx => ∃ p : Nat, p + g = s.size ∧ wx.heap[w.heap.size]? = some (.stringIter s p) ∧ dropW (notIn t.data.toList) s.data.toList = dropW (notIn t.data.toList) (s.data.toList.drop p) ∧ Below w.heap.size w wx)
  case atStart => exact ⟨0, by omega, World.iter_heap w s 0, rfl, Below.alloc (Below.refl _ _) (Nat.le_refl _) _⟩
  case round =>
    obtain ⟨p, hpg, hk, ht, hb⟩ := hrel
    have HK := Lib.hid hk
    have HT := Lib.hid ht
    have HB := Lib.hid hb
    clear hk ht hb
    cases gk with
    | zero =>
      obtain rfl : p = s.size := by omega
      have hx := fun ty => Lib.run_next_end_at (P := Tryz.prog) wr w.heap.size s s.size ty HK.out (by omega)
      go_wp2
      go_ret
      refine ⟨ret_int ?_, HB.out⟩
      unfold anyI posW
      rw [List.drop_zero, HT.out, drop_all s s.size (Nat.le_refl _)]; simp [dropW]
    | succ g =>
      have hp : p < s.size := by omega
      obtain ⟨w1, c, n, hnx, hk1, hbl, hoth, hsz, hn1, hn2, hc⟩ := next_some wr w.heap.size s p HK.out hp
      have HK1 := Lib.hid hk1
      have HB1 := Lib.hid (hbl _ _ HB.out (Nat.le_refl _))
      have HC := Lib.hid hc
      clear hk1 hbl hoth hsz hc
      go_wp2
      go_loopg [8] t.size (fun g2 _ wx => ∃ j : Nat, j + g2 = t.size ∧ wx.heap[w1.heap.size]? = some (.stringIter t j) ∧ wx.heap[w.heap.size]? = some (.stringIter s (p + n)) ∧ hasB t.data.toList s[p] = hasB (t.data.toList.drop j) s[p] ∧ Below w.heap.size w wx)
      case atStart =>
        have hl1 : w.heap.size < w1.heap.size := (Array.getElem?_eq_some_iff.1 HK1.out).1
        exact ⟨0, by omega, World.iter_heap w1 t 0, (Below.heap_alloc w1 _ _ hl1).trans HK1.out, rfl, Below.alloc HB1.out (Nat.le_of_lt hl1) _⟩
      case round =>
        obtain ⟨j, hjg, hkj, hks, hh, hb2⟩ := hrel
        have HKJ := Lib.hid hkj
        have HKS := Lib.hid hks
        have HH := Lib.hid hh
        have HB2 := Lib.hid hb2
        have hl1 : w.heap.size < w1.heap.size := (Array.getElem?_eq_some_iff.1 HK1.out).1
        clear hkj hks hh hb2
        cases gk with
        | zero =>
          obtain rfl : j = t.size := by omega
          have hx := fun ty => Lib.run_next_end_at (P := Tryz.prog) wr w1.heap.size t t.size ty HKJ.out (by omega)
          have hin : hasB t.data.toList s[p] = false := by rw [HH.out, drop_all t t.size (Nat.le_refl _)]; rfl
          have HIN := Lib.hid hin
          clear hin
          go_wp2
          go_roundg (s.size - (p + n))
          case measure => omega
          case rel =>
            refine ⟨p + n, by omega, HKS.out, ?_, HB2.out⟩
            rw [HT.out]
            refine dropW_skip _ s n p hn2 (fun q hq h1 h2 => ?_)
            unfold notIn
            rcases HC.out with ⟨-, -, rfl⟩ | ⟨-, -, h3⟩
            · obtain rfl : q = p := by omega
              rw [HIN.out]; rfl
            · rw [hasB_high _ HTT.out _ (h3 q hq h1 h2)]; rfl
        | succ g2 =>
          have hj : j < t.size := by omega
          obtain ⟨w2, c2, n2, hnx2, hk2, hbl2, hoth2, hsz2, hm1, hm2, hc2⟩ := next_some wr w1.heap.size t j HKJ.out hj
          have hta : t[j].toNat < 128 := HTT.out _ (by rw [← get_list t j hj]; exact List.getElem_mem _)
          rcases hc2 with ⟨-, hc2, rfl⟩ | ⟨hx, -⟩
          · have HK2 := Lib.hid hk2
            have HB3 := Lib.hid (hbl2 _ _ HB2.out (Nat.le_of_lt hl1))
            have HS2 : Hid (w2.heap[w.heap.size]? = some (.stringIter s (p + n))) := (hoth2 _ (by omega)).trans HKS.out
            have HDT := Lib.hid (drop_cons t j hj)
            have HC2 := Lib.hid hc2
            clear hk2 hbl2 hoth2 hsz2 hc2
            by_cases he : s[p] = t[j]
            · have hcc : ((c : Int) == (c2 : Int)) = true := by
                have := HC2.out
                rcases HC.out with ⟨-, h1, -⟩ | ⟨h1, -⟩
                · rw [h1, this, he]; simp
                · rw [he] at h1; omega
              have HE := Lib.hid he
              clear he
              go_wp2
              go_ret
              refine ⟨ret_int ?_, HB3.out⟩
              have hin : hasB t.data.toList s[p] = true := by rw [HH.out, HDT.out, hasB, if_pos HE.out.symm]
              have hpos : posW (notIn t.data.toList) s.data.toList 0 = p := by
                unfold posW
                rw [List.drop_zero, HT.out, drop_cons s p hp, dropW, if_neg (by unfold notIn; rw [hin]; simp), List.length_cons, List.length_drop, size_list]; omega
              unfold anyI; rw [hpos, size_list, if_pos hp]
            · have hcc : ((c : Int) == (c2 : Int)) = false := by
                have h2 := HC2.out
                rw [beq_eq_false_iff_ne]
                rcases HC.out with ⟨-, h1, -⟩ | ⟨-, h1, -⟩
                · intro e; apply he; apply UInt8.toNat.inj; omega
                · omega
              have HE := Lib.hid he
              clear he
              go_wp2
              go_roundg g2
              case measure => omega
              case rel => exact ⟨j + 1, by omega, HK2.out, HS2.out, by rw [HH.out, HDT.out, hasB, if_neg (fun e => HE.out e.symm)], HB3.out⟩
          · omega
end Go.Proofs.YtffcapkjfmkkaaaGreatDoor
namespace Go.Proofs.YtffcapkjfmkkaaaGreatDoor
open Go.RowKit
/-- What until hands back, and where the reader stands then. -/
def UntilPost (w : World) (rb : Nat) (s : Bs) (T : Bs) (l : Value) (e : Ending) (w' : World) : Prop :=
  match dropW (notIn T) s with
  | [] => e = gaveUp ∧ Below w.heap.size w w'
  | c :: r => e = .returned (.string ⟨(takeW (notIn T) s).toArray⟩) ∧ Stp w rb (c :: r) l w'
theorem bytes_drop (s : ByteArray) (k : Nat) : (⟨(s.data.toList.drop k).toArray⟩ : ByteArray) = s.extract k s.size := by
  have : (s.extract k s.size).data.toList = s.data.toList.drop k := by
    rw [Lib.extract_data, List.take_of_length_le (by rw [List.length_drop, size_list]; exact Nat.le_refl _)]
  rw [← this]
theorem anyAt_val (s t : ByteArray) (w : World) (T : Bs) (hT : t.data.toList = T) (ha : ∀ b ∈ T, b.toNat < 128) (v : Int) (h : anyI T s.data.toList = v) :
    Calls Tryz.prog 64 #[.string s, .string t] w fun e w' => e = .returned (.int .i64 v) ∧ Below w.heap.size w w' := by
  subst hT h; exact anyAt_walk s t w ha
set_option maxHeartbeats 2000000 in
theorem until_walk (rb : Nat) (s t : ByteArray) (l : Value) (w : World) (hr : Rd w rb s l) (T : Bs) (hT : t.data.toList = T) (ha : ∀ b ∈ T, b.toNat < 128) (hs : s.size ≤ 9223372036854775807) :
    Calls Tryz.prog 50 #[.pointer (some ⟨rb, 0, none⟩), .string t] w (UntilPost w rb s.data.toList T l) := by
  have h0 := hr.s
  have h1 := hr.f
  rcases posW_cases (notIn T) s 0 (by omega) with ⟨hA, hp⟩ | ⟨k, hk, -, hp, hA, hTk⟩
  · rw [List.drop_zero] at hA
    have HV : anyI T s.data.toList = -1 := by unfold anyI; rw [hp, size_list, if_neg (by omega)]
    have HP : Hid (∀ w', Below w.heap.size w w' → UntilPost w rb s.data.toList T l gaveUp w') := fun w' h => by unfold UntilPost; rw [hA]; exact ⟨rfl, h⟩
    clear hA hp
    go_enter Tryz.func50, Tryz.ntmps50
    go_wp2_with fail
    refine (anyAt_val s t _ T hT ha _ HV).mono ?_
    clear HV
    rintro e w1 ⟨rfl, hb⟩
    have HB := Lib.hid hb
    go_wp2_with fail
    refine (fail_walk rb _).mono ?_
    rintro e w2 ⟨rfl, rfl⟩
    go_wp2
    exact ⟨rfl, HP.out _ HB.out⟩
  · rw [List.drop_zero] at hA hTk
    have HV : anyI T s.data.toList = k := by unfold anyI; rw [hp, size_list, if_pos hk]
    have HP : Hid (∀ w', Stp w rb (s.data.toList.drop k) l w' → UntilPost w rb s.data.toList T l (.returned (.string (s.extract 0 k))) w') := fun w' h => by
      unfold UntilPost; rw [hA, hTk]
      rw [drop_cons s k hk] at h
      exact ⟨rfl, h⟩
    clear hA hp hTk
    go_enter Tryz.func50, Tryz.ntmps50
    go_wp2_with fail
    refine (anyAt_val s t _ T hT ha _ HV).mono ?_
    clear HV
    rintro e w1 ⟨rfl, hb⟩
    have HB := Lib.hid hb
    have g0 := (hr.below hb).s
    have g1 := (hr.below hb).f
    have hz : decide ((k : Int) < 0) = false := by simp
    go_wp2_with fail
    go_ret
    refine HP.out _ ?_
    have := hr.stp_below HB.out (s.data.toList.drop k)
    rw [bytes_drop] at this
    exact this
end Go.Proofs.YtffcapkjfmkkaaaGreatDoor
namespace Go.Proofs.YtffcapkjfmkkaaaGreatDoor
open Go.RowKit
theorem sizeBld : (Tryz.prog.info? 53).map (·.size) = some 2 := by kernel_rfl
theorem liesBld : liesAt Tryz.prog Tryz.prog.depth 53 (2 / Tryz.prog.cellsOf 53) 0 53 1 = true := by kernel_rfl
theorem infoU8 : (Tryz.prog.info? 5).map (fun i => (i.zero, i.size, i.bytes)) = some (some (.int .u8 0), 1, 1) := by kernel_rfl
set_option maxHeartbeats 1000000 in
set_option maxRecDepth 100000 in
theorem bCheck_used (b : Nat) (w : World) (h0 : w.cell? ⟨b, 0, none⟩ = some (.pointer (some ⟨b, 0, none⟩))) :
    Calls Tryz.prog 35 #[.pointer (some ⟨b, 0, none⟩)] w fun e w' => e = .returned (.tuple #[]) ∧ w' = w := by
  obtain ⟨j, hj, _⟩ := Option.map_eq_some_iff.1 sizeBld
  go_enter Tryz.func35, Tryz.ntmps35
  go_wp2
  rw [Lib.run_neq_ptr_same w _ Tryz.underlying50 hj]
  go_wp2
  go_end0
  exact ⟨rfl, rfl⟩
set_option maxHeartbeats 1000000 in
set_option maxRecDepth 100000 in
theorem bCheck_fresh (b : Nat) (w : World) (h0 : w.cell? ⟨b, 0, none⟩ = some (.pointer none)) (hsh : w.shape? b = some (53, 2)) (hfz : w.frozen? ⟨b, 0, none⟩ = false) :
    Calls Tryz.prog 35 #[.pointer (some ⟨b, 0, none⟩)] w fun e w' => e = .returned (.tuple #[]) ∧ w' = w.setCell ⟨b, 0, none⟩ (.pointer (some ⟨b, 0, none⟩)) := by
  obtain ⟨j, hj, hjs⟩ := Option.map_eq_some_iff.1 sizeBld
  go_enter Tryz.func35, Tryz.ntmps35
  go_wp2
  rw [Lib.run_to_unsafe w ⟨b, 0, none⟩ Tryz.underlying50 Tryz.underlying86 hj (by rw [hjs]; decide) hsh (Nat.zero_lt_succ 1)]
  simp only [Result.andThen]
  rw [Oper.upon_value]
  go_wp2
  rw [run_callFunc_extern Tryz.func54 (by kernel_rfl) (by kernel_rfl) (by kernel_rfl) (e := Extern.AbiNoEscape.same) (by kernel_rfl)]
  rw [Lib.run_noEscape]
  simp only [Result.andThen]
  rw [Oper.upon_value]
  go_wp2
  rw [Lib.run_from_unsafe w ⟨b, 0, none⟩ Tryz.underlying86 Tryz.underlying50 hj hsh liesBld]
  simp only [Result.andThen]
  rw [Oper.upon_value]
  go_wp2
  go_end0
  exact ⟨rfl, rfl⟩
theorem bCheck (B b : Nat) (bs : List Value) (w : World) (h : Lib.IsBuilder 53 5 B b bs w) :
    Calls Tryz.prog 35 #[.pointer (some ⟨b, 0, none⟩)] w fun e w' => e = .returned (.tuple #[]) ∧ (Lib.BuilderAt 53 5 B b (.pointer (some ⟨b, 0, none⟩)) bs w' ∧ Below B w w') := by
  rcases h with h | h
  · refine (bCheck_fresh b w h.cell0 h.shape h.frozen0).mono ?_
    rintro e w' ⟨rfl, rfl⟩
    exact ⟨rfl, h.used _, (Below.refl B w).setCell (p := ⟨b, 0, none⟩) h.1 _⟩
  · refine (bCheck_used b w h.cell0).mono ?_
    rintro e w' ⟨rfl, rfl⟩
    exact ⟨rfl, h, Below.refl B _⟩
set_option maxHeartbeats 2000000 in
set_option maxRecDepth 100000 in
theorem bByte (B b : Nat) (bs : List Value) (c : Int) (w : World) (h : Lib.IsBuilder 53 5 B b bs w) (hlen : bs.length + 1 ≤ 140737488355328) (hBw : B ≤ w.heap.size) :
    Calls Tryz.prog 85 #[.pointer (some ⟨b, 0, none⟩), .int .u8 c] w fun e w' => e = .returned .nilIface ∧ (Lib.BuilderAt 53 5 B b (.pointer (some ⟨b, 0, none⟩)) (bs ++ [.int .u8 c]) w' ∧ Below B w w') := by
  obtain ⟨i0, hi, hz0, hz1, hz2⟩ := info_parts infoU8
  go_enter Tryz.func85, Tryz.ntmps85
  go_wp2_with (go_at_call 35; refine (bCheck B b bs _ h).mono ?_)
  rintro e w1 ⟨rfl, h1, hb1⟩
  obtain ⟨hB, v, hbk, hown, hne⟩ := h1
  have c0 : w1.cell? ⟨b, 0, none⟩ = some (.pointer (some ⟨b, 0, none⟩)) := by rw [Lib.cell_of_heap hbk]; rfl
  have c1 : w1.cell? ⟨b, 1, none⟩ = some v := by rw [Lib.cell_of_heap hbk]; rfl
  go_wp2_with (at_builtin; refine wpList_append_own _ rfl _ _ 51 rfl B 5 i0 (.int .u8 0) 1 1 Tryz.underlying51 hi hz0 hz1 hz2 rfl (by decide) _ _ _ rfl (hown.alloc _) ⟨w1.heap.size, 0, none⟩ 1 1 [.int .u8 c] rfl rfl ?c1 ?c2 ?c3 ?c4 ?c5 ?_)
  case c1 =>
    intro j u hj
    match j, hj with
    | 0, hj => simp at hj; subst hj; simp [Addr.add]
  case c2 => intro u hu; simp at hu; subst hu; rfl
  case c3 => unfold maxLen; omega
  case c4 => omega
  case c5 => have := hb1.size; simp; omega
  intro v' w2 hown' hgrow _
  have hlt : b < w1.heap.size := by
    rcases Nat.lt_or_ge b w1.heap.size with h' | h'
    · exact h'
    · simp [Array.getElem?_eq_none h'] at hbk
  have hb2 : w2.heap[b]? = some (.cells #[.pointer (some ⟨b, 0, none⟩), v] 53 (0, 0)) := by
    rw [hgrow.block b (by simp; omega) (fun e => hne e.symm), Lib.alloc_old w1 _ b hlt]
    exact hbk
  have d0 : w2.cell? ⟨b, 0, none⟩ = some (.pointer (some ⟨b, 0, none⟩)) := by rw [Lib.cell_of_heap hb2]; rfl
  have d1 : w2.cell? ⟨b, 1, none⟩ = some v := by rw [Lib.cell_of_heap hb2]; rfl
  have f1 : w2.frozen? ⟨b, 1, none⟩ = false := Lib.frozen_of_heap hb2 1
  obtain ⟨g, cap, rfl⟩ : ∃ g cap, v' = .slice (some ⟨g, 0, none⟩) (bs.length + 1) cap := by
    rcases hown'.2 with ⟨_, h0⟩ | ⟨g, cap, cur, hv, _⟩
    · omega
    · exact ⟨g, cap, hv⟩
  go_wp2
  go_ret
  refine ⟨rfl, ?_, ?_⟩
  · exact Lib.BuilderAt.put (T := 53) (e := 5) hB hb2 (bs' := bs ++ [.int .u8 c]) (by simpa using hown') (by decide)
  · exact ((hb1.alloc (by have := hb1.size; omega) _).grown hgrow (by have := hb1.size; simp; omega) (fun k hk => (hown.lt k hk).1)).setCell (p := ⟨b, 1, none⟩) hB _
set_option maxHeartbeats 2000000 in
set_option maxRecDepth 100000 in
theorem bString (B b : Nat) (bs : List Value) (s : ByteArray) (w : World) (h : Lib.IsBuilder 53 5 B b bs w) (hlen : bs.length + s.size ≤ 140737488355328) (hBw : B ≤ w.heap.size) :
    Calls Tryz.prog 21 #[.pointer (some ⟨b, 0, none⟩), .string s] w fun e w' => e = .returned (.tuple #[.int .i64 s.size, .nilIface]) ∧ (Lib.BuilderAt 53 5 B b (.pointer (some ⟨b, 0, none⟩)) (bs ++ Lib.strCells s) w' ∧ Below B w w') := by
  obtain ⟨i0, hi, hz0, hz1, hz2⟩ := info_parts infoU8
  go_enter Tryz.func21, Tryz.ntmps21
  go_wp2_with (go_at_call 35; refine (bCheck B b bs _ h).mono ?_)
  rintro e w1 ⟨rfl, h1, hb1⟩
  obtain ⟨hB, v, hbk, hown, hne⟩ := h1
  have c0 : w1.cell? ⟨b, 0, none⟩ = some (.pointer (some ⟨b, 0, none⟩)) := by rw [Lib.cell_of_heap hbk]; rfl
  have c1 : w1.cell? ⟨b, 1, none⟩ = some v := by rw [Lib.cell_of_heap hbk]; rfl
  go_wp2_with (at_builtin; refine Lib.wpList_append_own_string _ rfl _ _ 51 9 rfl B 5 i0 Tryz.underlying51 Tryz.underlying9 hi hz0 hz1 hz2 _ _ _ rfl hown s rfl ?c3 ?c4 ?c5 ?_)
  case c3 => unfold maxLen; omega
  case c4 => omega
  case c5 => have := hb1.size; omega
  intro v' w2 hown' hgrow _
  have hlt : b < w1.heap.size := by
    rcases Nat.lt_or_ge b w1.heap.size with h' | h'
    · exact h'
    · simp [Array.getElem?_eq_none h'] at hbk
  have hb2 : w2.heap[b]? = some (.cells #[.pointer (some ⟨b, 0, none⟩), v] 53 (0, 0)) := by
    rw [hgrow.block b hlt (fun e => hne e.symm)]
    exact hbk
  have d0 : w2.cell? ⟨b, 0, none⟩ = some (.pointer (some ⟨b, 0, none⟩)) := by rw [Lib.cell_of_heap hb2]; rfl
  have d1 : w2.cell? ⟨b, 1, none⟩ = some v := by rw [Lib.cell_of_heap hb2]; rfl
  have f1 : w2.frozen? ⟨b, 1, none⟩ = false := Lib.frozen_of_heap hb2 1
  obtain ⟨ao, n', cap, rfl⟩ : ∃ ao n' cap, v' = .slice ao n' cap := by
    rcases hown'.2 with ⟨hv, _⟩ | ⟨g, cap, cur, hv, _⟩
    · exact ⟨_, _, _, hv⟩
    · exact ⟨_, _, _, hv⟩
  go_wp2
  go_ret2
  refine ⟨rfl, ?_, ?_⟩
  · exact Lib.BuilderAt.put (T := 53) (e := 5) hB hb2 (bs' := bs ++ Lib.strCells s) (by simpa [Lib.strCells_length] using hown') (by decide)
  · exact (hb1.grown hgrow (by have := hb1.size; omega) (fun k hk => (hown.lt k hk).1)).setCell (p := ⟨b, 1, none⟩) hB _
end Go.Proofs.YtffcapkjfmkkaaaGreatDoor
namespace Go.Proofs.YtffcapkjfmkkaaaGreatDoor
open Go.RowKit
def entN : Nat → Bs
  | 0 => [97, 109, 112]
  | 1 => [108, 116]
  | 2 => [103, 116]
  | 3 => [113, 117, 111, 116]
  | _ => [97, 112, 111, 115]
theorem entL_N (k : Nat) (h : k < 5) : entL k = entN k ++ [59] := by
  match k, h with
  | 0, _ => rfl
  | 1, _ => rfl
  | 2, _ => rfl
  | 3, _ => rfl
  | 4, _ => rfl
def entT : Bs := [32, 97, 109, 112, 32, 108, 116, 32, 103, 116, 32, 113, 117, 111, 116, 32, 97, 112, 111, 115, 32]
theorem fndE_ent (k : Nat) (h : k < 5) (r : Bs) : fndE (entL k ++ r) 5 = k := by
  match k, h with
  | 0, _ => simp [fndE, entL]
  | 1, _ => simp [fndE, entL]
  | 2, _ => simp [fndE, entL]
  | 3, _ => simp [fndE, entL]
  | 4, _ => simp [fndE, entL]
theorem cut_ent (k : Nat) (h : k < 5) (r : Bs) : Lib.cut (entL k ++ r) [59] = (entN k, r, true) := by
  match k, h with
  | 0, _ => simp [Lib.cut, Lib.index, entL, entN, List.isPrefixOf]
  | 1, _ => simp [Lib.cut, Lib.index, entL, entN, List.isPrefixOf]
  | 2, _ => simp [Lib.cut, Lib.index, entL, entN, List.isPrefixOf]
  | 3, _ => simp [Lib.cut, Lib.index, entL, entN, List.isPrefixOf]
  | 4, _ => simp [Lib.cut, Lib.index, entL, entN, List.isPrefixOf]
theorem occ_one (l : Bs) (i : Nat) (c : UInt8) (h : Lib.occAt l [c] i = true) : l.drop i = c :: l.drop (i + 1) := by
  unfold Lib.occAt at h
  cases e : l.drop i with
  | nil => rw [e] at h; simp [List.isPrefixOf] at h
  | cons x t =>
    rw [e] at h; simp [List.isPrefixOf] at h
    have : l.drop (i + 1) = t := by rw [← List.drop_drop, e]; rfl
    rw [this, h]
/-- The name is one of the five, and a semicolon stands behind it. -/
theorem ent_of_cut (l : Bs) (k : Nat) (hk : k < 5) (h1 : (Lib.cut l [59]).2.2 = true) (h2 : (Lib.cut l [59]).1 = entN k) : l = entL k ++ (Lib.cut l [59]).2.1 := by
  unfold Lib.cut at *
  split at h1
  · rename_i h0
    rw [if_pos h0] at h2 ⊢
    rcases Lib.index_spec l [59] with ⟨e, -⟩ | ⟨i, e, hi, ho, -⟩
    · rw [e] at h0; exact absurd h0 (by decide)
    · rw [e] at h2 ⊢
      simp only [Int.toNat_natCast] at h2 ⊢
      have := occ_one l i 59 ho
      rw [entL_N k hk, ← h2]
      conv => lhs; rw [← List.take_append_drop i l, this]
      simp
  · simp at h1
theorem word_of (w n m : Bs) (hw : 32 ∉ w) (hn : 32 ∉ n) (h : (n ++ [32]).isPrefixOf (w ++ 32 :: m) = true) : n = w := by
  induction w generalizing n with
  | nil =>
    cases n with
    | nil => rfl
    | cons c n => simp [List.isPrefixOf] at h; exact absurd (by rw [h.1]; simp) hn
  | cons c w ih =>
    cases n with
    | nil => simp [List.isPrefixOf] at h; exact absurd (by rw [h]; simp) hw
    | cons d n =>
      simp [List.isPrefixOf] at h
      have := ih n (fun h' => hw (List.mem_cons_of_mem _ h')) (fun h' => hn (List.mem_cons_of_mem _ h')) (by simpa [List.isPrefixOf] using h.2)
      rw [h.1, this]
/-- Which of the five names it is. -/
def entK (n : Bs) : Nat := if n = entN 0 then 0 else if n = entN 1 then 1 else if n = entN 2 then 2 else if n = entN 3 then 3 else if n = entN 4 then 4 else 5
theorem entK_N (k : Nat) (h : k < 5) : entK (entN k) = k := by
  match k, h with
  | 0, _ => rfl
  | 1, _ => rfl
  | 2, _ => rfl
  | 3, _ => rfl
  | 4, _ => rfl
theorem N_entK (n : Bs) (h : entK n < 5) : n = entN (entK n) := by
  unfold entK at *
  repeat' split at h
  all_goals simp_all
theorem table_index (n : Bs) (hn : 32 ∉ n) (h0 : n ≠ []) : decide (Lib.index entT (32 :: (n ++ [32])) < 0) = !decide (entK n < 5) := by
  rcases Lib.index_spec entT (32 :: (n ++ [32])) with ⟨e, hno⟩ | ⟨i, e, hi, ho, -⟩
  · have : ¬ entK n < 5 := by
      intro hk
      have he := N_entK n hk
      generalize entK n = k at hk he
      subst he
      have : ∀ k, k < 5 → ∃ j, j ≤ entT.length ∧ Lib.occAt entT (32 :: (entN k ++ [32])) j = true := by decide
      obtain ⟨j, hj, ho⟩ := this k hk
      rw [hno j hj] at ho; cases ho
    simp [e, this]
  · have hk : entK n < 5 := by
      unfold Lib.occAt at ho
      have hlen : entT.length = 21 := rfl
      rw [hlen] at hi
      have key : ∀ j, j ≤ 21 → (∃ k, k < 5 ∧ ∃ m, entT.drop j = 32 :: (entN k ++ 32 :: m)) ∨ (entT.drop j).head? ≠ some 32 ∨ entT.drop j = [32] := by
        intro j hj
        have : ∀ j, j ≤ 21 → (∃ k, k < 5 ∧ (entT.drop j).take ((entN k).length + 2) = 32 :: (entN k ++ [32])) ∨ (entT.drop j).head? ≠ some 32 ∨ entT.drop j = [32] := by decide
        rcases this j hj with ⟨k, hk, ht⟩ | h | h
        · refine .inl ⟨k, hk, (entT.drop j).drop ((entN k).length + 2), ?_⟩
          conv => lhs; rw [← List.take_append_drop ((entN k).length + 2) (entT.drop j), ht]
          simp
        · exact .inr (.inl h)
        · exact .inr (.inr h)
      rcases key i hi with ⟨k, hk, m, hd⟩ | h | h
      · rw [hd] at ho
        simp only [List.isPrefixOf, beq_self_eq_true, Bool.true_and] at ho
        have hw : ∀ k, k < 5 → 32 ∉ entN k := by decide
        have := word_of (entN k) n m (hw k hk) hn ho
        rw [this, entK_N k hk]; exact hk
      · cases hd : entT.drop i with
        | nil => rw [hd] at ho; simp [List.isPrefixOf] at ho
        | cons c t => rw [hd] at ho h; simp [List.isPrefixOf] at ho; exact absurd (by simp [ho.1]) h
      · rw [h] at ho
        simp [List.isPrefixOf] at ho
    simp [e, hk]
/-- What stands behind & names a sign. -/
def entOK (l : Bs) : Bool := (Lib.cut l [59]).2.2 && decide (entK (Lib.cut l [59]).1 < 5)
theorem fndE_ok (l : Bs) (h : entOK l = true) : fndE l 5 = entK (Lib.cut l [59]).1 ∧ l.drop (entL (entK (Lib.cut l [59]).1)).length = (Lib.cut l [59]).2.1 := by
  unfold entOK at h; simp at h
  have hl := ent_of_cut l _ h.2 h.1 (N_entK _ h.2)
  generalize (Lib.cut l [59]).2.1 = r at *
  generalize hk : entK (Lib.cut l [59]).1 = k at *
  rw [hl]
  exact ⟨fndE_ent k h.2 r, by simp⟩
theorem fndE_bad (l : Bs) (h : entOK l = false) : fndE l 5 < 0 := by
  by_cases h0 : fndE l 5 < 0
  · exact h0
  · exfalso
    obtain ⟨k, hk⟩ : ∃ k : Nat, fndE l 5 = k := ⟨(fndE l 5).toNat, by omega⟩
    have h5 := (fndE_lt l 5).2
    have ht := fndE_at l 5 k hk
    have hl : l = entL k ++ l.drop (entL k).length := by conv => lhs; rw [← List.take_append_drop (entL k).length l, ht]
    have := cut_ent k (by omega) (l.drop (entL k).length)
    rw [← hl] at this
    unfold entOK at h
    rw [this, entK_N k (by omega)] at h
    simp at h; omega
theorem readB_ent (l : Bs) (h : entOK l = true) : readB (38 :: l) = (readB (Lib.cut l [59]).2.1).map (entC (entK (Lib.cut l [59]).1) :: ·) := by
  have := fndE_ok l h
  rw [readB, if_pos rfl, if_neg (by omega), this.1, Int.toNat_natCast, this.2]
theorem readB_bad (l : Bs) (h : entOK l = false) : readB (38 :: l) = none := by
  rw [readB, if_pos rfl, if_pos (fndE_bad l h)]
theorem readB_pre (p l : Bs) (h : 38 ∉ p) : readB (p ++ l) = (readB l).map (p ++ ·) := by
  induction p with
  | nil => rw [List.nil_append]; cases readB l <;> rfl
  | cons c p ih =>
    have hc : ¬ c = 38 := fun e => h (by rw [e]; simp)
    rw [List.cons_append, readB, if_neg hc, ih (fun h' => h (List.mem_cons_of_mem _ h'))]
    cases readB l <;> rfl
theorem readB_plain (p : Bs) (h : 38 ∉ p) : readB p = some p := by
  have := readB_pre p [] h
  rw [List.append_nil, show readB [] = some [] from by rw [readB]] at this
  rw [this]; simp
def plainS (l : Bs) : Option Bs := match readB l with
  | none => none
  | some t => if signsB t then some t else none
end Go.Proofs.YtffcapkjfmkkaaaGreatDoor
namespace Go.Proofs.YtffcapkjfmkkaaaGreatDoor
open Go.RowKit Go.Maps
theorem zeroU (w : World) : (zeroValue 5).run Tryz.prog w = .ok (.int .u8 0) w := by kernel_rfl
abbrev MU := 120
def entS (k : Nat) : Value := .string ⟨(entN k).toArray⟩
def entV (k : Nat) : Value := .int .u8 (entC k).toNat
theorem entS_key (k : Nat) (h : k < 5) : keyOf Tryz.prog 9 (entS k) = some (Kn (entN k)) :=
  WideMaps.keyOf_string_mk Tryz.underlying9 (by
    have : ∀ k, k < 5 → (⟨(entN k).toArray⟩ : ByteArray).size ≤ maxLen := by decide
    exact this k h)
abbrev Em (w : World) (b n : Nat) (D : DataW Unit) : Prop := w.ownsMap Tryz.prog 9 (plainElem Tryz.prog 5) b n D
theorem put_ent {w : World} {b n : Nat} {D : DataW Unit} (h : Em w b n D) (hn : n < 10) (k : Nat) (hk : k < 5) :
    ∃ w', (Instr.mapUpdate MU (.map (some b)) (entS k) (entV k)).run Tryz.prog w = .ok () w' ∧ Em w' b (n + 1) (D.put (Kn (entN k)) (.lit (.int .u8 (entC k).toNat))) ∧ w.grownBy w' (some b) :=
  World.ownsMap.update h lawS Tryz.underlying120 (by unfold maxLen; omega) (entS_key k hk) (plainElem_int Tryz.underlying5 (by
    have : ∀ k, k < 5 → (Lit.int .u8 (entC k).toNat).wf = true := by decide
    exact this k hk))
set_option maxRecDepth 100000 in
theorem ent_map (w : World) : ∃ w1 w2 w3 w4 w5 : World,
    (Instr.mapUpdate MU (.map (some w.heap.size)) (entS 0) (entV 0)).run Tryz.prog (w.alloc (.map #[] 0)) = .ok () w1 ∧
    (Instr.mapUpdate MU (.map (some w.heap.size)) (entS 1) (entV 1)).run Tryz.prog w1 = .ok () w2 ∧
    (Instr.mapUpdate MU (.map (some w.heap.size)) (entS 2) (entV 2)).run Tryz.prog w2 = .ok () w3 ∧
    (Instr.mapUpdate MU (.map (some w.heap.size)) (entS 3) (entV 3)).run Tryz.prog w3 = .ok () w4 ∧
    (Instr.mapUpdate MU (.map (some w.heap.size)) (entS 4) (entV 4)).run Tryz.prog w4 = .ok () w5 ∧
    (∀ k, k < 5 → (Instr.lookup MU (.map (some w.heap.size)) (entS k) false).run Tryz.prog w5 = .ok (entV k) w5) ∧ Below w.heap.size w w5 := by
  have h0 : Em (w.alloc (.map #[] 0)) w.heap.size 0 (.map []) := World.ownsMap_made _ _ _ _
  obtain ⟨w1, r1, o1, g1⟩ := put_ent h0 (by omega) 0 (by omega)
  obtain ⟨w2, r2, o2, g2⟩ := put_ent o1 (by omega) 1 (by omega)
  obtain ⟨w3, r3, o3, g3⟩ := put_ent o2 (by omega) 2 (by omega)
  obtain ⟨w4, r4, o4, g4⟩ := put_ent o3 (by omega) 3 (by omega)
  obtain ⟨w5, r5, o5, g5⟩ := put_ent o4 (by omega) 4 (by omega)
  refine ⟨w1, w2, w3, w4, w5, r1, r2, r3, r4, r5, fun k hk => ?_, ?_⟩
  · obtain ⟨c, hrun, hat, -⟩ := o5.lookup_int (t := MU) lawS Tryz.underlying120 Tryz.underlying5 (zeroU _) (entS_key k hk)
    rw [hrun]
    have hd : ∀ k, k < 5 → ((((((.map [] : DataW Unit).put (Kn (entN 0)) (.lit (.int .u8 (entC 0).toNat))).put (Kn (entN 1)) (.lit (.int .u8 (entC 1).toNat))).put (Kn (entN 2)) (.lit (.int .u8 (entC 2).toNat))).put (Kn (entN 3)) (.lit (.int .u8 (entC 3).toNat))).put (Kn (entN 4)) (.lit (.int .u8 (entC 4).toNat))).atKey (Kn (entN k)) (.lit (.int .u8 0)) = .lit (.int .u8 (entC k).toNat) := by
      intro k hk
      match k, hk with
      | 0, _ => rfl
      | 1, _ => rfl
      | 2, _ => rfl
      | 3, _ => rfl
      | 4, _ => rfl
    rw [hd k hk] at hat
    injection hat with hat; injection hat with _ hat
    rw [← hat]; rfl
  · have hg := (((g1.trans g2).trans g3).trans g4).trans g5
    exact ((Below.refl _ _).alloc (Nat.le_refl _) _).grown hg (by simp) (fun k hk => by cases hk; exact Nat.le_refl _)
end Go.Proofs.YtffcapkjfmkkaaaGreatDoor
namespace Go.Proofs.YtffcapkjfmkkaaaGreatDoor
open Go.RowKit
abbrev Bld (w : World) (B b : Nat) (out : Bs) : Prop := Lib.IsBuilder 53 5 B b (Lib.byteCells out) w
theorem ent_bad (ok : Bool) (n : Bs) : (!ok || decide (Lib.index entT (32 :: (n ++ [32])) < 0) || decide (0 ≤ Lib.indexByte n 32) || n.isEmpty) = !(ok && decide (entK n < 5)) := by
  cases ok
  · simp
  · by_cases hn : 32 ∈ n
    · have h5 : ¬ entK n < 5 := fun h => by
        have he := N_entK n h
        have hw : ∀ k, k < 5 → 32 ∉ entN k := by decide
        rw [he] at hn; exact hw _ h hn
      have : 0 ≤ Lib.indexByte n 32 := by
        by_cases h : Lib.indexByte n 32 = -1
        · obtain ⟨j, hj⟩ := List.mem_iff_getElem?.1 hn
          exact absurd hj (Lib.indexByte_none h j)
        · have := Lib.indexByte_ge n 32; omega
      simp [this, h5]
    · by_cases h0 : n = []
      · subst h0
        simp [entK, entN]
      · rw [table_index n hn h0]
        have hi : ¬ 0 ≤ Lib.indexByte n 32 := fun h => by
          obtain ⟨o, ho⟩ : ∃ o : Nat, Lib.indexByte n 32 = o := ⟨(Lib.indexByte n 32).toNat, by omega⟩
          exact hn (List.mem_iff_getElem?.2 ⟨o, (Lib.indexByte_some ho).1⟩)
        cases n with
        | nil => exact absurd rfl h0
        | cons c l => simp [hi]
theorem builder_below {T e : TypeId} {B b : Nat} {p : Value} {bs : List Value} {w w' : World} (h : Lib.BuilderAt T e B b p bs w) (hb : Below w.heap.size w w') : Lib.BuilderAt T e B b p bs w' := by
  have hl := h.lt
  obtain ⟨hB, v, hk, hown, hne⟩ := h
  refine ⟨hB, v, (hb.block _ hl).trans hk, hown.kept (below_grown hb) ?_, hne⟩
  cases v.ownBlock <;> simp
def PlainPost (w : World) (s : ByteArray) (e : Ending) (w' : World) : Prop :=
  (match plainS s.data.toList with | none => e = gaveUp | some t => e = .returned (.string ⟨t.toArray⟩)) ∧ Below w.heap.size w w'
set_option maxRecDepth 100000 in
set_option maxHeartbeats 8000000 in
theorem plain_walk (rb : Nat) (s : ByteArray) (m : Int) (w : World) (hs : s.size ≤ 4096) (hm : w.cell? ⟨2, 0, none⟩ = some (.int .i64 m)) :
    Calls Tryz.prog 69 #[.pointer (some ⟨rb, 0, none⟩), .string s] w (PlainPost w s) := by
  have hmm := @run_makeMap Tryz.prog
  have HMM := Lib.hid hm
  clear hm
  go_enter Tryz.func69, Tryz.ntmps69
  go_upto_block 0 with (fail)
  go_cut [1, 6, 7, 8, 9, 10] (fun _ _ _ _ _ _ wr => ∃ out : Bs, readB s.data.toList = some out ∧ Bld wr w.heap.size w.heap.size out ∧ Below w.heap.size w wr ∧ out.length ≤ s.size)
  case first =>
    go_wp2_with fail
    go_loopw [1, 6, 7, 8, 9, 10] (fun v _ _ _ _ _ wr => ∃ (t : ByteArray) (out : Bs), v = .string t ∧ readB s.data.toList = (readB t.data.toList).map (out ++ ·) ∧ Bld wr w.heap.size w.heap.size out ∧ Below w.heap.size w wr ∧ out.length + t.size ≤ s.size) (fun v _ _ _ _ _ _ => strLen v)
    case atStart =>
      refine ⟨s, [], rfl, by cases readB s.data.toList <;> rfl, Lib.fresh_isBuilder _ _ w, Below.alloc (Below.refl _ _) (Nat.le_refl _) _, by simp⟩
    case round =>
      obtain ⟨t, out, rfl, ht, hbd, hb, hlen⟩ := hrel
      have HT := Lib.hid ht
      have HBD := Lib.hid hbd
      have HB := Lib.hid hb
      clear ht hbd hb
      by_cases h0 : 0 < t.size
      · have he := isEmpty_false t h0
        have HX := Lib.hid (fun w => strings_IndexByte t 38 w)
        go_wp2_with fail
        generalize hix : Lib.indexByte t.data.toList 38 = ix
        have HIX := Lib.hid hix
        refine (HX.out wr).mono ?_
        rintro e w1 ⟨rfl, hw1⟩
        subst hw1
        rw [show (38 : Int).toNat.toUInt8 = 38 from rfl, hix]
        clear hix
        have hge := Lib.indexByte_ge t.data.toList 38
        rw [HIX.out] at hge
        by_cases hneg : ix = -1
        · subst hneg
          go_wp2_with fail
          refine (bString w.heap.size w.heap.size (Lib.byteCells out) t w1 HBD.out (by rw [Lib.byteCells_length]; omega) HB.out.size).mono ?_
          rintro e w2 ⟨rfl, hbd2, hb2⟩
          have HBD2 := Lib.hid hbd2
          have HB2 := Lib.hid hb2
          clear hbd2 hb2
          go_wp2_with fail
          go_meet
          refine ⟨out ++ t.data.toList, ?_, ?_, HB.out.trans HB2.out, by rw [List.length_append, size_list]; omega⟩
          · rw [HT.out, readB_plain]
            · rfl
            · intro hmem
              obtain ⟨j, hj⟩ := List.mem_iff_getElem?.1 hmem
              exact Lib.indexByte_none HIX.out j hj
          · refine .inr ?_
            have := HBD2.out
            rwa [show Lib.byteCells (out ++ t.data.toList) = Lib.byteCells out ++ Lib.strCells t from by simp [Lib.byteCells, Lib.strCells]]
        · obtain ⟨k, rfl⟩ : ∃ k : Nat, ix = k := ⟨ix.toNat, by omega⟩
          have hz : decide ((k : Int) < 0) = false := by simp
          have hsm := Lib.indexByte_some HIX.out
          have hk : k < t.size := by
            have := (List.getElem?_eq_some_iff.1 hsm.1).1
            rwa [size_list] at this
          have hk38 : t[k] = 38 := by
            have := hsm.1
            rw [List.getElem?_eq_getElem (by rw [size_list]; exact hk)] at this
            injection this
          have HK38 := Lib.hid hk38
          have HSM := Lib.hid hsm.2
          clear hk38 hsm
          go_wp2_with fail
          refine (bString w.heap.size w.heap.size (Lib.byteCells out) _ w1 HBD.out (by rw [Lib.byteCells_length, ByteArray.size_extract]; omega) HB.out.size).mono ?_
          rintro e w2 ⟨rfl, hbd2, hb2⟩
          have HBD2 := Lib.hid hbd2
          have HB2 := Lib.hid (HB.out.trans hb2)
          clear hbd2 hb2
          go_wp2_with fail
          have HPL : Hid ((t.extract (k + 1) t.size).data.toList = t.data.toList.drop (k + 1)) := by
            show _ = _; rw [Lib.extract_data, List.take_of_length_le (by rw [List.length_drop, size_list]; exact Nat.le_refl _)]
          refine (strings_Cut _ _ m w2 (by rw [ByteArray.size_extract]; omega) (cell_keep HB2.out HMM.out)).mono ?_
          rintro e w3 ⟨rfl, hd3⟩
          have HB3 : Hid (Below w.heap.size w w3) := Dr.below hd3 HB2.out
          have HBD3 : Hid (Lib.BuilderAt 53 5 w.heap.size w.heap.size (.pointer (some ⟨w.heap.size, 0, none⟩)) (Lib.byteCells out ++ Lib.strCells (t.extract 0 k)) w3) := by
            obtain ⟨n3, rfl⟩ := hd3; exact HBD2.out
          clear hd3
          rw [HPL.out]
          generalize hcut : Lib.cut (t.data.toList.drop (k + 1)) (⟨#[59]⟩ : ByteArray).data.toList = cc
          have HCUT := Lib.hid hcut
          clear hcut
          obtain ⟨name, rest, ok⟩ := cc
          have hnl : name.length ≤ 4096 := by
            have h1 : name = (Lib.cut (t.data.toList.drop (k + 1)) (⟨#[59]⟩ : ByteArray).data.toList).1 := by rw [HCUT.out]
            have h2 : (Lib.cut (t.data.toList.drop (k + 1)) (⟨#[59]⟩ : ByteArray).data.toList).1.length ≤ (t.data.toList.drop (k + 1)).length := by
              unfold Lib.cut; split
              · exact List.length_take_le' _ _
              · exact Nat.le_refl _
            rw [List.length_drop, size_list] at h2
            rw [h1]; omega
          have z1 : ¬ 9223372036854775807 < 1 + name.length := by omega
          have z2 : ¬ 9223372036854775807 < 1 + name.length + 1 := by omega
          go_wp2_with fail
          refine (strings_Index ⟨#[32, 97, 109, 112, 32, 108, 116, 32, 103, 116, 32, 113, 117, 111, 116, 32, 97, 112, 111, 115, 32]⟩ _ m w3 (by decide) (cell_keep HB3.out HMM.out)).mono ?_
          rintro e w4 ⟨rfl, rfl⟩
          have HBAD := Lib.hid (ent_bad ok name)
          generalize hiv : Lib.index (⟨#[32, 97, 109, 112, 32, 108, 116, 32, 103, 116, 32, 113, 117, 111, 116, 32, 97, 112, 111, 115, 32]⟩ : ByteArray).data.toList ((⟨#[32]⟩ : ByteArray) ++ ⟨name.toArray⟩ ++ ⟨#[32]⟩).data.toList = iv
          have HIV := Lib.hid hiv
          clear hiv
          have HBQ : Hid ((!ok || decide (iv < 0) || decide (0 ≤ Lib.indexByte name 32) || name.isEmpty) = !(entOK (t.data.toList.drop (k + 1)))) := by
            show _ = _
            have h1 : entOK (t.data.toList.drop (k + 1)) = (ok && decide (entK name < 5)) := by
              have := HCUT.out
              unfold entOK
              rw [show ([59] : Bs) = (⟨#[59]⟩ : ByteArray).data.toList from rfl, this]
            rw [h1, ← HBAD.out, ← HIV.out]
            congr 3
          have hsplit : t.data.toList = t.data.toList.take k ++ 38 :: t.data.toList.drop (k + 1) := by
            conv => lhs; rw [← List.take_append_drop k t.data.toList, drop_cons t k hk, HK38.out]
          have hpre : (38 : UInt8) ∉ t.data.toList.take k := by
            intro hmem
            obtain ⟨j, hj⟩ := List.mem_iff_getElem?.1 hmem
            rw [List.getElem?_take] at hj
            split at hj
            · rename_i hjk; exact HSM.out j hjk hj
            · cases hj
          have HRB : Hid (readB t.data.toList = (readB (38 :: t.data.toList.drop (k + 1))).map (t.data.toList.take k ++ ·)) := by
            show _ = _
            conv => lhs; rw [hsplit]
            exact readB_pre _ _ hpre
          clear hsplit hpre
          have HNO : Hid (entOK (t.data.toList.drop (k + 1)) = false → plainS s.data.toList = none) := fun h => by
            unfold plainS
            rw [HT.out, HRB.out, readB_bad _ h]; rfl
          have HFAIL : Hid ((!ok || decide (iv < 0) || decide (0 ≤ Lib.indexByte name 32) || name.isEmpty) = true → ∀ w', Below w.heap.size w w' → PlainPost w s gaveUp w') := fun h w' hb => by
            unfold PlainPost
            have : entOK (t.data.toList.drop (k + 1)) = false := by
              have := HBQ.out.symm.trans h
              simpa using this
            rw [HNO.out this]; exact ⟨rfl, hb⟩
          cases ok
          · go_wp2_with fail
            refine (fail_walk rb _).mono ?_
            rintro e w5 ⟨rfl, rfl⟩
            go_wp2
            exact ⟨rfl, HFAIL.out (by simp) _ HB3.out⟩
          · by_cases hiv0 : iv < 0
            · have zi : decide (iv < 0) = true := decide_eq_true hiv0
              have HZI := Lib.hid zi
              clear hiv0
              go_wp2_with fail
              refine (fail_walk rb _).mono ?_
              rintro e w5 ⟨rfl, rfl⟩
              go_wp2
              exact ⟨rfl, HFAIL.out (by rw [HZI.out]; simp) _ HB3.out⟩
            · have zi : decide (iv < 0) = false := decide_eq_false hiv0
              have HZI := Lib.hid zi
              clear hiv0
              go_wp2_with fail
              refine (strings_Contains_one _ 32 _).mono ?_
              rintro e w5 ⟨rfl, rfl⟩
              generalize hcb : decide (0 ≤ Lib.indexByte (⟨name.toArray⟩ : ByteArray).data.toList 32) = cb
              have HCB : Hid (decide (0 ≤ Lib.indexByte name 32) = cb) := hcb
              clear hcb
              cases cb
              · cases hne : name.isEmpty
                · have HNE := Lib.hid hne
                  have HOK : Hid (entOK (t.data.toList.drop (k + 1)) = true) := by
                    show _ = _
                    have := HBQ.out
                    rw [HZI.out, HCB.out, HNE.out] at this
                    simpa using this.symm
                  obtain ⟨m1, m2, m3, m4, m5, r1, r2, r3, r4, r5, hlk, hbm⟩ := ent_map w5
                  have r1' : (Instr.mapUpdate 120 (.map (some w5.heap.size)) (.string ⟨#[97, 109, 112]⟩) (.int .u8 38)).run Tryz.prog (w5.alloc (.map #[] 0)) = .ok () m1 := r1
                  have r2' : (Instr.mapUpdate 120 (.map (some w5.heap.size)) (.string ⟨#[108, 116]⟩) (.int .u8 60)).run Tryz.prog m1 = .ok () m2 := r2
                  have r3' : (Instr.mapUpdate 120 (.map (some w5.heap.size)) (.string ⟨#[103, 116]⟩) (.int .u8 62)).run Tryz.prog m2 = .ok () m3 := r3
                  have r4' : (Instr.mapUpdate 120 (.map (some w5.heap.size)) (.string ⟨#[113, 117, 111, 116]⟩) (.int .u8 34)).run Tryz.prog m3 = .ok () m4 := r4
                  have r5' : (Instr.mapUpdate 120 (.map (some w5.heap.size)) (.string ⟨#[97, 112, 111, 115]⟩) (.int .u8 39)).run Tryz.prog m4 = .ok () m5 := r5
                  have HBM := Lib.hid hbm
                  have HLK := Lib.hid hlk
                  clear r1 r2 r3 r4 r5 hlk hbm
                  have hk5 : entK name < 5 := by
                    have h1 := HOK.out
                    have h2 := HCUT.out
                    unfold entOK at h1
                    rw [show ([59] : Bs) = (⟨#[59]⟩ : ByteArray).data.toList from rfl, h2] at h1
                    simpa using h1
                  have hlk' : (Instr.lookup 120 (.map (some w5.heap.size)) (.string ⟨name.toArray⟩) false).run Tryz.prog m5 = .ok (.int .u8 (entC (entK name)).toNat) m5 := by
                    have h1 := HLK.out _ hk5
                    unfold entS entV at h1
                    rw [← N_entK name hk5] at h1
                    exact h1
                  have HLK2 := Lib.hid hlk'
                  clear hlk'
                  generalize hcc : ((entC (entK name)).toNat : Int) = cc at HLK2
                  have HCC := Lib.hid hcc
                  have hlk2 := HLK2.out
                  clear hcc
                  have HBD5 := Lib.hid (builder_below HBD3.out HBM.out)
                  have HB5 : Hid (Below w.heap.size w m5) := HB3.out.trans (HBM.out.mono HB3.out.size)
                  go_wp2_with fail
                  refine (bByte w.heap.size w.heap.size _ _ m5 (.inr HBD5.out) (by rw [List.length_append, Lib.byteCells_length, Lib.strCells_length, ByteArray.size_extract]; omega) HB5.out.size).mono ?_
                  rintro e w6 ⟨rfl, hbd6, hb6⟩
                  have HBD6 := Lib.hid hbd6
                  have HB6 := Lib.hid (HB5.out.trans hb6)
                  clear hbd6 hb6
                  go_wp2_with fail
                  have HC2 : Hid (Lib.cut (t.data.toList.drop (k + 1)) [59] = (name, rest, true)) := by
                    show _ = _; exact HCUT.out
                  have HRL : rest.length + k + 3 ≤ t.size := by
                    have h1 := ent_of_cut (t.data.toList.drop (k + 1)) (entK name) hk5 (by rw [HC2.out]) (by rw [HC2.out]; exact N_entK name hk5)
                    rw [HC2.out] at h1
                    have h2 := congrArg List.length h1
                    rw [List.length_append, List.length_drop, size_list] at h2
                    have h3 : ∀ j, j < 5 → 2 ≤ (entL j).length := by decide
                    have := h3 _ hk5
                    simp only at h2
                    omega
                  have HRD : Hid (readB s.data.toList = (readB (⟨rest.toArray⟩ : ByteArray).data.toList).map ((out ++ t.data.toList.take k ++ [entC (entK name)]) ++ ·)) := by
                    show _ = _
                    rw [HT.out, HRB.out, readB_ent _ HOK.out, HC2.out]
                    show _ = (readB rest).map _
                    cases readB rest with
                    | none => rfl
                    | some x => simp
                  go_roundw
                  case measure =>
                    show (⟨rest.toArray⟩ : ByteArray).size < t.size
                    have : (⟨rest.toArray⟩ : ByteArray).size = rest.length := by rw [← size_list]
                    omega
                  case rel =>
                    refine ⟨_, out ++ t.data.toList.take k ++ [entC (entK name)], rfl, HRD.out, .inr ?_, HB6.out, ?_⟩
                    · have h1 := HBD6.out
                      have h2 := HCC.out
                      rw [show Lib.byteCells (out ++ t.data.toList.take k ++ [entC (entK name)]) = Lib.byteCells out ++ Lib.strCells (t.extract 0 k) ++ [.int .u8 cc] from by
                        rw [← h2]; simp [Lib.byteCells, Lib.strCells]]
                      exact h1
                    · have : (⟨rest.toArray⟩ : ByteArray).size = rest.length := by rw [← size_list]
                      simp only [List.length_append, List.length_take, size_list, List.length_cons, List.length_nil]
                      omega
                · have HNE := Lib.hid hne
                  go_wp2_with fail
                  refine (fail_walk rb _).mono ?_
                  rintro e w5 ⟨rfl, rfl⟩
                  go_wp2
                  exact ⟨rfl, HFAIL.out (by rw [HNE.out]; simp) _ HB3.out⟩
              · go_wp2_with fail
                refine (fail_walk rb _).mono ?_
                rintro e w5 ⟨rfl, rfl⟩
                go_wp2
                exact ⟨rfl, HFAIL.out (by rw [HCB.out]; simp) _ HB3.out⟩
      · have he := isEmpty_true t h0
        go_wp2_with fail
        go_meet
        refine ⟨out, ?_, HBD.out, HB.out, by omega⟩
        have : t.data.toList = [] := List.eq_nil_of_length_eq_zero (by rw [size_list]; omega)
        rw [HT.out, this, show readB [] = some [] from by rw [readB]]; simp
  case rest =>
    obtain ⟨out, ho, hbd, hb, hlen⟩ := hcut
    have HO := Lib.hid ho
    have HB := Lib.hid hb
    clear ho hb
    have hbf := Lib.IsBuilderF.of hbd
    have HBF := Lib.hid hbf
    clear hbd hbf
    go_wp2_with fail
    refine (Builder_String_any_f w.heap.size w.heap.size out wc HBF.out HB.out.size).mono ?_
    rintro e w1 ⟨rfl, hf1, hb1⟩
    have HF1 := Lib.hid hf1
    have HB1 := Lib.hid (HB.out.trans hb1)
    clear hf1 hb1
    cases hsg : signsB out with
    | false =>
      have HSG := Lib.hid hsg
      go_wp2_with fail
      refine (signs_val out _ (by unfold maxLen; omega) _ HSG.out).mono ?_
      clear hsg
      rintro e w2 ⟨rfl, hd2⟩
      have HB2 := Lib.hid (Dr.below hd2 HB1.out)
      go_wp2_with fail
      refine (fail_walk rb _).mono ?_
      rintro e w3 ⟨rfl, rfl⟩
      go_wp2
      have hp : plainS s.data.toList = none := by unfold plainS; rw [HO.out]; simp only []; rw [HSG.out]; rfl
      unfold PlainPost
      rw [hp]
      exact ⟨rfl, rfl, HB2.out⟩
    | true =>
      have HSG := Lib.hid hsg
      go_wp2_with fail
      refine (signs_val out _ (by unfold maxLen; omega) _ HSG.out).mono ?_
      clear hsg
      rintro e w2 ⟨rfl, hd2⟩
      have HB2 := Lib.hid (Dr.below hd2 HB1.out)
      have HF2 : Hid (Lib.IsBuilderF 53 5 w.heap.size w.heap.size (Lib.byteCells out) w2) := by
        obtain ⟨n2, rfl⟩ := hd2; exact HF1.out
      clear hd2
      go_wp2_with fail
      refine (Builder_String_any_f w.heap.size w.heap.size out w2 HF2.out HB2.out.size).mono ?_
      rintro e w3 ⟨rfl, hf3, hb3⟩
      have HB3 := Lib.hid (HB2.out.trans hb3)
      clear hf3 hb3
      go_wp2_with fail
      go_ret
      have hp : plainS s.data.toList = some out := by unfold plainS; rw [HO.out]; simp only []; rw [HSG.out]; rfl
      unfold PlainPost
      rw [hp]
      exact ⟨rfl, HB3.out⟩
end Go.Proofs.YtffcapkjfmkkaaaGreatDoor
namespace Go.Proofs.YtffcapkjfmkkaaaGreatDoor
open Go.RowKit
def goodP (p : Par) : Bool := signsB p.value
def goodN (n : Nod) : Bool := n.attrs.all goodP && signsB n.text
def attrP (s : Bs) : Option (Par × Bs) :=
  match attrS s with
  | none => none
  | some (p, r) => if goodP p then some (p, r) else none
def attrsP : Nat → Bs → List Par → Option (List Par × Bs)
  | 0, _, _ => none
  | f + 1, s, acc =>
    match dropW blankB s with
    | [] => none
    | c :: r =>
      if c = 47 ∨ c = 62 then some (acc, c :: r)
      else if (c :: r).length = s.length then none
      else match attrP (c :: r) with
        | none => none
        | some (p, rest) => attrsP f rest (acc ++ [p])
def closeP (n : Nod) (text : Bs) (kids : List Nod) (rest : Bs) : Option (List Nod × Bs) :=
  if rest.take (2 + n.name.length) = 60 :: 47 :: n.name then
    match pre1 62 (dropW blankB (rest.drop (2 + n.name.length))) with
    | none => none
    | some r =>
      match plainS (trimB text) with
      | none => none
      | some t => some ({ n with text := trimB t } :: kids, r)
  else none
mutual
def elemP : Nat → Bs → Int → Nat → Option (List Nod × Bs)
  | 0, _, _, _ => none
  | f + 1, s, deep, cnt =>
    match pre1 60 s with
    | none => none
    | some s1 =>
      match dropW (notIn [47, 62, 32, 9, 13, 10]) s1 with
      | [] => none
      | c :: r =>
        match attrsP (s1.length + 1) (c :: r) [] with
        | none => none
        | some (ps, s3) =>
          if 8 ≤ deep ∨ 200 ≤ cnt then none
          else match pre2 47 62 s3 with
            | some s4 => some ([⟨deep, takeW (notIn [47, 62, 32, 9, 13, 10]) s1, ps, []⟩], s4)
            | none =>
              match pre1 62 s3 with
              | none => none
              | some s4 => contP f s4 ⟨deep, takeW (notIn [47, 62, 32, 9, 13, 10]) s1, ps, []⟩ cnt
def contP : Nat → Bs → Nod → Nat → Option (List Nod × Bs)
  | 0, _, _, _ => none
  | f + 1, s, n, cnt =>
    match kidsP f s [] (n.deep + 1) (cnt + 1) [] with
    | none => none
    | some (text, kids, rest) => closeP n text kids rest
def kidsP : Nat → Bs → Bs → Int → Nat → List Nod → Option (Bs × List Nod × Bs)
  | 0, _, _, _, _, _ => none
  | f + 1, s, text, deep, cnt, kids =>
    match dropW (notIn [60]) s with
    | [] => none
    | c :: r =>
      match pre2 60 47 (c :: r) with
      | some _ => some (text ++ takeW (notIn [60]) s, kids, c :: r)
      | none =>
        match elemP f (c :: r) deep cnt with
        | none => none
        | some (ms, rest) => kidsP f rest (text ++ takeW (notIn [60]) s) deep (cnt + ms.length) (kids ++ ms)
end
def fil (o : Option (List Nod × Bs)) : Option (List Nod × Bs) :=
  match o with
  | none => none
  | some (ms, r) => if ms.all goodN then some (ms, r) else none
def filK (o : Option (Bs × List Nod × Bs)) : Option (Bs × List Nod × Bs) :=
  match o with
  | none => none
  | some (t, ks, r) => if ks.all goodN then some (t, ks, r) else none
def filA (o : Option (List Par × Bs)) : Option (List Par × Bs) :=
  match o with
  | none => none
  | some (_, []) => none
  | some (ps, c :: r) => if ps.all goodP then some (ps, c :: r) else none
theorem attrsS_more : ∀ (f : Nat) (s : Bs) (acc ps : List Par) (r : Bs), attrsS f s acc = some (ps, r) → ∃ m, ps = acc ++ m := by
  intro f
  induction f with
  | zero => intro s acc ps r h; cases h
  | succ f ih =>
    intro s acc ps r h
    rw [attrsS] at h
    split at h
    · cases h; exact ⟨[], by simp⟩
    · split at h
      · cases h; exact ⟨[], by simp⟩
      · split at h
        · cases h
        · split at h
          · cases h
          · rename_i p r2 h2
            obtain ⟨m, rfl⟩ := ih _ _ _ _ h
            exact ⟨p :: m, by simp⟩
theorem filA_bad (f : Nat) (s : Bs) (acc : List Par) (h : acc.all goodP = false) : filA (attrsS f s acc) = none := by
  cases e : attrsS f s acc with
  | none => rfl
  | some x =>
    obtain ⟨ps, r⟩ := x
    obtain ⟨m, rfl⟩ := attrsS_more _ _ _ _ _ e
    cases r with
    | nil => rfl
    | cons c r => simp only [filA, List.all_append, h, Bool.false_and]; rfl
theorem attrsP_eq : ∀ (f : Nat) (s : Bs) (acc : List Par), acc.all goodP = true → attrsP f s acc = filA (attrsS f s acc) := by
  intro f
  induction f with
  | zero => intro s acc h; rfl
  | succ f ih =>
    intro s acc h
    rw [attrsP, attrsS]
    cases dropW blankB s with
    | nil => rfl
    | cons c r =>
      simp only []
      by_cases h1 : c = 47 ∨ c = 62
      · rw [if_pos h1, if_pos h1]; simp only [filA, h, if_true]
      · rw [if_neg h1, if_neg h1]
        by_cases h2 : (c :: r).length = s.length
        · rw [if_pos h2, if_pos h2]; rfl
        · rw [if_neg h2, if_neg h2]
          unfold attrP
          cases e : attrS (c :: r) with
          | none => rfl
          | some x =>
            obtain ⟨p, rest⟩ := x
            cases hg : goodP p with
            | true =>
              simp only [hg, if_true]
              exact ih _ _ (by rw [List.all_append, h, List.all_cons, hg]; rfl)
            | false =>
              simp only [hg, Bool.false_eq_true, if_false]
              exact (filA_bad _ _ _ (by rw [List.all_append, List.all_cons, hg, Bool.false_and, Bool.and_false])).symm
theorem kidsS_more : ∀ (f : Nat) (s text : Bs) (deep : Int) (cnt : Nat) (kids ks : List Nod) (t r : Bs), kidsS f s text deep cnt kids = some (t, ks, r) → ∃ m, ks = kids ++ m := by
  intro f
  induction f with
  | zero => intro s text deep cnt kids ks t r h; simp [kidsS] at h
  | succ f ih =>
    intro s text deep cnt kids ks t r h
    rw [kidsS] at h
    split at h
    · cases h
    · split at h
      · cases h; exact ⟨[], by simp⟩
      · split at h
        · cases h
        · rename_i ms rest h2
          obtain ⟨m, rfl⟩ := ih _ _ _ _ _ _ _ _ h
          exact ⟨ms ++ m, by simp⟩
theorem filK_bad (f : Nat) (s text : Bs) (deep : Int) (cnt : Nat) (kids : List Nod) (h : kids.all goodN = false) : filK (kidsS f s text deep cnt kids) = none := by
  cases e : kidsS f s text deep cnt kids with
  | none => rfl
  | some x =>
    obtain ⟨t, ks, r⟩ := x
    obtain ⟨m, rfl⟩ := kidsS_more _ _ _ _ _ _ _ _ _ e
    simp only [filK, List.all_append, h, Bool.false_and]; rfl
theorem sign_blank (c : UInt8) (h : blankB c = true) : sign1 c = true := by
  unfold sign1; rw [h]; rfl
theorem signs_append (a b : Bs) : signsB (a ++ b) = (signsB a && signsB b) := by
  induction a with
  | nil => simp [signsB]
  | cons c a ih => simp [signsB, ih, Bool.and_assoc]
theorem signs_rev (a : Bs) : signsB a.reverse = signsB a := by
  induction a with
  | nil => rfl
  | cons c a ih => rw [List.reverse_cons, signs_append, ih]; simp [signsB, Bool.and_comm]
theorem signs_dropW (l : Bs) : signsB (dropW blankB l) = signsB l := by
  induction l with
  | nil => rfl
  | cons c l ih =>
    rw [dropW]; split
    · rename_i h; rw [ih]; simp [signsB, sign_blank c h]
    · rfl
theorem signs_trim (l : Bs) : signsB (trimB l) = signsB l := by
  unfold trimB trimR
  rw [signs_rev, signs_dropW, signs_rev, signs_dropW]
theorem closeP_eq (n : Nod) (text : Bs) (kids : List Nod) (rest : Bs) (hn : n.attrs.all goodP = true) (hk : kids.all goodN = true) : closeP n text kids rest = fil (closeS n text kids rest) := by
  unfold closeP closeS plainS
  split
  · cases readB (trimB text) with
    | none => cases pre1 62 (dropW blankB (rest.drop (2 + n.name.length))) <;> rfl
    | some t =>
      cases pre1 62 (dropW blankB (rest.drop (2 + n.name.length))) with
      | none => rfl
      | some r =>
        have : ({ n with text := trimB t } :: kids).all goodN = signsB t := by
          simp only [List.all_cons, goodN, hn, hk, signs_trim, Bool.true_and, Bool.and_true]
        simp only [fil, this]
        cases signsB t <;> rfl
  · rfl
theorem closeS_bad (n : Nod) (text : Bs) (kids : List Nod) (rest : Bs) (h : n.attrs.all goodP = false ∨ kids.all goodN = false) : fil (closeS n text kids rest) = none := by
  unfold closeS
  split
  · split
    · rename_i t r h1 h2
      have : ({ n with text := trimB t } :: kids).all goodN = false := by
        simp only [List.all_cons, goodN]
        rcases h with h | h <;> simp [h]
      simp only [fil, this]; rfl
    · rfl
  · rfl
theorem contS_bad (f : Nat) (s : Bs) (n : Nod) (cnt : Nat) (h : n.attrs.all goodP = false) : fil (contS f s n cnt) = none := by
  cases f with
  | zero => simp [contS, fil]
  | succ f =>
    rw [contS]
    split
    · rfl
    · exact closeS_bad _ _ _ _ (.inl h)
theorem all_eq (f : Nat) : (∀ s deep cnt, elemP f s deep cnt = fil (elemS f s deep cnt)) ∧ (∀ s n cnt, n.attrs.all goodP = true → contP f s n cnt = fil (contS f s n cnt)) ∧
    (∀ s text deep cnt kids, kids.all goodN = true → kidsP f s text deep cnt kids = filK (kidsS f s text deep cnt kids)) := by
  induction f with
  | zero => exact ⟨fun _ _ _ => by simp [elemP, elemS, fil], fun _ _ _ _ => by simp [contP, contS, fil], fun _ _ _ _ _ _ => by simp [kidsP, kidsS, filK]⟩
  | succ f ih =>
    refine ⟨fun s deep cnt => ?_, fun s n cnt hn => ?_, fun s text deep cnt kids hk => ?_⟩
    · rw [elemP, elemS]
      cases pre1 60 s with
      | none => simp only []; split <;> rfl
      | some s1 =>
        simp only []
        cases dropW (notIn [47, 62, 32, 9, 13, 10]) s1 with
        | nil => simp only []; split <;> rfl
        | cons c r =>
          simp only []
          rw [attrsP_eq _ _ _ rfl]
          cases attrsS (s1.length + 1) (c :: r) [] with
          | none => simp only [filA]; split <;> rfl
          | some x =>
            obtain ⟨ps, s3⟩ := x
            cases s3 with
            | nil => simp only [filA, pre2, pre1]; split <;> rfl
            | cons c3 r3 =>
              simp only [filA]
              cases hg : ps.all goodP with
              | true =>
                simp only [if_true]
                split
                · rfl
                · cases pre2 47 62 (c3 :: r3) with
                  | some s4 => simp only [fil, List.all_cons, goodN, hg, signsB, List.all_nil]; rfl
                  | none =>
                    simp only []
                    cases pre1 62 (c3 :: r3) with
                    | none => rfl
                    | some s4 => exact ih.2.1 _ _ _ hg
              | false =>
                simp only [Bool.false_eq_true, if_false]
                split
                · rfl
                · cases pre2 47 62 (c3 :: r3) with
                  | some s4 => simp only [fil, List.all_cons, goodN, hg, Bool.false_and]; rfl
                  | none =>
                    simp only []
                    cases pre1 62 (c3 :: r3) with
                    | none => rfl
                    | some s4 => exact (contS_bad _ _ _ _ hg).symm
    · rw [contP, contS, ih.2.2 _ _ _ _ _ rfl]
      cases kidsS f s [] (n.deep + 1) (cnt + 1) [] with
      | none => rfl
      | some x =>
        obtain ⟨t, ks, r⟩ := x
        simp only [filK]
        cases hk : ks.all goodN with
        | true => simp only [if_true]; exact closeP_eq _ _ _ _ hn hk
        | false => simp only [Bool.false_eq_true, if_false]; exact (closeS_bad _ _ _ _ (.inr hk)).symm
    · rw [kidsP, kidsS]
      cases dropW (notIn [60]) s with
      | nil => rfl
      | cons c r =>
        simp only []
        cases pre2 60 47 (c :: r) with
        | some x => simp only [filK, hk, if_true]
        | none =>
          simp only []
          rw [ih.1]
          cases elemS f (c :: r) deep cnt with
          | none => rfl
          | some x =>
            obtain ⟨ms, rest⟩ := x
            simp only [fil]
            cases hm : ms.all goodN with
            | true => simp only [if_true]; exact ih.2.2 _ _ _ _ _ (by simp only [List.all_append, hk, hm, Bool.and_true])
            | false => simp only [Bool.false_eq_true, if_false]; exact (filK_bad _ _ _ _ _ _ (by simp only [List.all_append, hm, Bool.and_false])).symm
/-- What the check says of all signs. -/
theorem attrsA_good : ∀ (l pre : List Par), attrsA pre l = true → l.all goodP = true := by
  intro l
  induction l with
  | nil => intro pre h; rfl
  | cons p l ih =>
    intro pre h
    rw [attrsA, Bool.and_eq_true] at h
    have h1 := h.1
    unfold attrOK at h1
    simp only [Bool.and_eq_true] at h1
    rw [List.all_cons, ih _ h.2]
    simp only [goodP, h1.1.2, Bool.and_self]
theorem elem_good (n : Nod) (h : elemOK n = true) : goodN n = true := by
  unfold elemOK at h
  simp only [Bool.and_eq_true] at h
  have h1 := h.1.1.2
  unfold attrsB at h1
  simp only [Bool.and_eq_true] at h1
  simp only [goodN, h.1.2, attrsA_good _ _ h1.2, Bool.and_self]
theorem chain_good : ∀ (ns : List Nod), chainB ns = true → ns.all goodN = true := by
  intro ns
  induction ns with
  | nil => intro _; rfl
  | cons a l ih =>
    intro h
    cases l with
    | nil => simp only [List.all_cons, List.all_nil, elem_good a h, Bool.and_self]
    | cons b l =>
      rw [chainB] at h
      simp only [Bool.and_eq_true] at h
      rw [List.all_cons, ih h.2.2.2, elem_good a h.1]; rfl
theorem check_good (ns : List Nod) (h : checkB ns = true) : ns.all goodN = true := by
  unfold checkB at h
  simp only [Bool.and_eq_true] at h
  exact chain_good ns h.2
def docP (s : Bs) : Option (List Nod) :=
  match prologS s with
  | none => none
  | some s1 =>
    match elemP 9000 (dropW blankB s1) 0 0 with
    | none => none
    | some (ms, r) => if dropW blankB r = [] ∧ checkB ms = true then some ms else none
theorem docP_eq (s : Bs) : docP s = docS s := by
  unfold docP docS
  cases prologS s with
  | none => rfl
  | some s1 =>
    simp only []
    rw [(all_eq 9000).1]
    cases elemS 9000 (dropW blankB s1) 0 0 with
    | none => rfl
    | some x =>
      obtain ⟨ms, r⟩ := x
      simp only [fil]
      cases hg : ms.all goodN with
      | true => simp only [if_true]
      | false =>
        simp only [Bool.false_eq_true, if_false]
        rw [if_neg]
        intro h
        rw [check_good ms h.2] at hg; cases hg
end Go.Proofs.YtffcapkjfmkkaaaGreatDoor
