/- Lemmas for the statements of this seat, part 2: contracts of functions of the program and of the references, and plain facts on lists of bytes. -/
import Derived.Test.YtffcapkjfmkkaaaGreatDoorQ1
import Derived.OneCell
import Derived.Shelf.Strings.Builder1
import Derived.Shelf.Strings.Trim
import Derived.Shelf.Small.Utf8
import Derived.Shelf.Small.Strs
import Derived.Shelf.Small.Wraps
import Derived.Shelf.Strings.BuilderF
import Derived.Shelf.Strings.BuilderK
import Derived.Shelf.Strings.Search1
import Derived.Shelf.Strings.Search2
import Derived.Shelf.Strings.Search3
import Derived.Shelf.Strings.Cut
import Derived.Shelf.Strings.Count
import Derived.Shelf.LaysM
import Derived.Shelf.Strings.Shaped
import Derived.Shelf.Strings.Prefix
import Derived.Shelf.Strings.Runes
import Derived.Shelf.Strings.IndexAny
import Derived.Shelf.Strings.AsciiSet
import Derived.Shelf.Strings.IndexAnyAll
import Derived.Shelf.Unicode.DecodeSlow
import Derived.Test.YtffcapkjfmkkaaaGreatDoorProg
import Derived.Lib.TrimUEq
import Derived.Lib.OthersKept
import Derived.Maps.Own
import Derived.Maps.OwnOps
import Derived.Maps.OwnSet
import Derived.Maps.Views
import Derived.Maps.Keyed
namespace Go.Proofs.YtffcapkjfmkkaaaGreatDoor
open Go.RowKit
def nameEnd : Bs := [47, 62, 32, 9, 13, 10]
theorem attrS_sizes {l : Bs} {p : Par} {r : Bs} (h : attrS l = some (p, r)) : p.name.length ≤ l.length ∧ p.value.length ≤ l.length := by
  unfold attrS at h
  split at h
  · cases h
  · rename_i c l1 h1
    split at h
    · cases h
    · rename_i q l2 h2
      split at h
      · split at h
        · cases h
        · rename_i c' r' h3
          split at h
          · split at h
            · cases h
            · rename_i v hv
              cases h
              have a1 := dropW_len (notIn [61]) l
              have a2 := dropW_len blankB l1
              rw [h1] at a1; rw [h2] at a2
              have hv' := readB_len _ _ _ (Nat.le_refl _) hv
              have b1 : (trimR (takeW (notIn [61]) l)).length ≤ l.length := by
                unfold trimR; rw [List.length_reverse]
                have := dropW_len blankB (takeW (notIn [61]) l).reverse
                rw [List.length_reverse] at this
                unfold takeW at *; rw [List.length_take] at this; omega
              have b2 : (takeW (notIn [q, 60]) l2).length ≤ l2.length := by unfold takeW; rw [List.length_take]; omega
              simp at a1 a2
              exact ⟨b1, by show v.length ≤ _; omega⟩
          · cases h
      · cases h
theorem dropW_suffix (p : UInt8 → Bool) (l : Bs) : dropW p l <:+ l := by
  rw [dropW_drop p l]; exact List.drop_suffix _ _
theorem attrS_suffix {l : Bs} {p : Par} {r : Bs} (h : attrS l = some (p, r)) : r <:+ l := by
  unfold attrS at h
  split at h
  · cases h
  · rename_i c l1 h1
    split at h
    · cases h
    · rename_i q l2 h2
      split at h
      · split at h
        · cases h
        · rename_i c' r' h3
          split at h
          · split at h
            · cases h
            · cases h
              have a1 := dropW_suffix (notIn [61]) l
              have a2 := dropW_suffix blankB l1
              have a3 := dropW_suffix (notIn [q, 60]) l2
              rw [h1] at a1; rw [h2] at a2; rw [h3] at a3
              exact ((List.suffix_cons _ _).trans a3).trans (((List.suffix_cons _ _).trans a2).trans ((List.suffix_cons _ _).trans a1))
          · cases h
      · cases h
theorem attrS_drop {s : Bs} {p : Nat} {q : Par} {r : Bs} (h : attrS (s.drop p) = some (q, r)) : r = s.drop (s.length - r.length) :=
  List.suffix_iff_eq_drop.1 ((attrS_suffix h).trans (List.drop_suffix _ _))
/-- Inside element's loop: what has been read. -/
structure ARel (s : ByteArray) (F t0 : Nat) (w : World) (deep : Int) (name : ByteArray) (p tt : Nat) (va : Value) (wr : World) (g : Nat) (ps : List Par) : Prop where
  eq : attrsS F (s.data.toList.drop t0) [] = attrsS g (s.data.toList.drop tt) ps
  pos : posW blankB s.data.toList tt = p
  fuel : s.size - tt + 1 ≤ g
  le : tt ≤ p
  ge : t0 ≤ tt
  at_le : p ≤ s.size
  own : OPar wr w.heap.size va ps
  box : wr.heap[w.heap.size]? = some (.cells #[.int .i64 deep, .string name, va, .string ⟨#[]⟩] 46 (0, 0))
  below : Below w.heap.size w wr
  len : ps.length ≤ tt
/-- Behind element's loop. -/
structure BRel (s : ByteArray) (F t0 : Nat) (w : World) (deep : Int) (name : ByteArray) (p : Nat) (va : Value) (wr : World) (ps : List Par) : Prop where
  eq : attrsS F (s.data.toList.drop t0) [] = some (ps, s.data.toList.drop p)
  at_le : p ≤ s.size
  ge : t0 ≤ p
  own : OPar wr w.heap.size va ps
  box : wr.heap[w.heap.size]? = some (.cells #[.int .i64 deep, .string name, va, .string ⟨#[]⟩] 46 (0, 0))
  below : Below w.heap.size w wr
def elTail (f : Nat) (deep : Int) (nm : Bs) (cnt : Nat) : Option (List Par × Bs) → Option (List Nod × Bs)
  | none => none
  | some (ps, s3) =>
    match pre2 47 62 s3 with
    | some s4 => some ([⟨deep, nm, ps, []⟩], s4)
    | none =>
      match pre1 62 s3 with
      | none => none
      | some s4 => contS f s4 ⟨deep, nm, ps, []⟩ cnt
theorem elemS_tail {f : Nat} {s s1 r : Bs} {deep : Int} {cnt : Nat} {c : UInt8} (h1 : ¬ (8 ≤ deep ∨ 200 ≤ cnt)) (h2 : pre1 60 s = some s1) (h3 : dropW (notIn nameEnd) s1 = c :: r) :
    elemS (f + 1) s deep cnt = elTail f deep (takeW (notIn nameEnd) s1) cnt (attrsS (s1.length + 1) (c :: r) []) := by
  rw [elemS, if_neg h1, h2]
  unfold nameEnd at *
  simp only
  rw [h3]; simp only
  cases attrsS (s1.length + 1) (c :: r) [] with
  | none => rfl
  | some x =>
    obtain ⟨ps, s3⟩ := x
    simp only [elTail]
    all_goals (rcases pre2 47 62 s3 with _ | s4)
    all_goals (try rfl)
    all_goals (cases pre1 62 s3 <;> rfl)
theorem setCell_same {w : World} {b : Nat} {cs : Array Value} {T : TypeId} {fr : Nat × Nat} (hb : w.heap[b]? = some (.cells cs T fr)) (j : Nat) (u : Value) : (w.setCell ⟨b, j, none⟩ u).heap[b]? = some (.cells (cs.setIfInBounds j u) T fr) := by
  simp [World.setCell, Array.getElem?_modify, hb]
theorem setCell_grown (w : World) (b j : Nat) (u : Value) : w.grownBy (w.setCell ⟨b, j, none⟩ u) (some b) :=
  ⟨rfl, rfl, rfl, by simp [World.setCell], fun k _ hk => Below.heap_setCell _ _ _ _ (fun e => hk (by simp [e]))⟩
theorem setCell_size (w : World) (a : Addr) (u : Value) : (w.setCell a u).heap.size = w.heap.size := by simp [World.setCell]
theorem store3 {w : World} {b : Nat} {x0 x1 x2 : Value} {T : TypeId} (hb : w.heap[b]? = some (.cells #[x0, x1, x2] T (0, 0))) (y0 y1 y2 : Value) :
    (((w.setCell ⟨b, 0, none⟩ y0).setCell ⟨b, 1, none⟩ y1).setCell ⟨b, 2, none⟩ y2).heap[b]? = some (.cells #[y0, y1, y2] T (0, 0)) ∧
    w.grownBy (((w.setCell ⟨b, 0, none⟩ y0).setCell ⟨b, 1, none⟩ y1).setCell ⟨b, 2, none⟩ y2) (some b) ∧
    (((w.setCell ⟨b, 0, none⟩ y0).setCell ⟨b, 1, none⟩ y1).setCell ⟨b, 2, none⟩ y2).heap.size = w.heap.size := by
  refine ⟨?_, ?_, by simp⟩
  · have h1 := setCell_same hb 0 y0
    have h2 := setCell_same h1 1 y1
    have h3 := setCell_same h2 2 y2
    rw [h3]; rfl
  · exact ((setCell_grown _ _ _ _).trans (setCell_grown _ _ _ _)).trans (setCell_grown _ _ _ _)
theorem OPar.kept {w w' : World} {B : Nat} {v : Value} {ps : List Par} (h : OPar w B v ps) {row : Option Nat} (hg : w.grownBy w' row) (hne : v.ownBlock = none ∨ v.ownBlock ≠ row) : OPar w' B v ps := ⟨h.1.kept hg hne, h.2⟩
theorem OPar.lt {w : World} {B : Nat} {v : Value} {ps : List Par} (h : OPar w B v ps) (k : Nat) (hk : v.ownBlock = some k) : k < w.heap.size := own_lt h.1 k hk
theorem below_grown' {w w' : World} {row : Option Nat} (h : Below w.heap.size w w') : w.grownBy w' row := ⟨h.os, h.tape, h.output, h.size, fun i hi _ => h.block i hi⟩
end Go.Proofs.YtffcapkjfmkkaaaGreatDoor
namespace Go.Proofs.YtffcapkjfmkkaaaGreatDoor
open Go.RowKit
def pre5 : Bs := [60, 63, 120, 109, 108]
/-- What stands behind the prolog; none: it is broken. -/
def prologS (s : Bs) : Option Bs :=
  if s.take 5 = pre5 then pre2 63 62 (dropW (notIn [63]) (s.drop 5)) else some s
def docS (s : Bs) : Option (List Nod) :=
  match prologS s with
  | none => none
  | some s1 =>
    match elemS 9000 (dropW blankB s1) 0 0 with
    | none => none
    | some (ms, r) => if dropW blankB r = [] ∧ checkB ms = true then some ms else none
def DocPost (w : World) (s : ByteArray) (e : Ending) (w' : World) : Prop :=
  Below w.heap.size w w' ∧
  if 4096 < s.size then e = .returned (.tuple #[.slice none 0 0, .int .i64 2])
  else match docS s.data.toList with
    | none => e = .returned (.tuple #[.slice none 0 0, .int .i64 130])
    | some ms => ∃ v, e = .returned (.tuple #[v, .int .i64 0]) ∧ RNod w' v ms
theorem grown_none {w w' : World} (h : w.grownBy w' none) : Below w.heap.size w w' := ⟨h.os, h.tape, h.output, h.size, fun k hk => h.block k hk (by simp)⟩
theorem rCheck_val (u : Value) (ns : List Nod) (w : World) (hp : RNod w u ns) (b : Bool) (h : checkB ns = b) :
    Calls Tryz.prog 13 #[u] w fun e w' => e = .returned (.int .i64 (chkI b)) ∧ Below w.heap.size w w' := by
  subst h; exact rCheck_walk u ns w hp
end Go.Proofs.YtffcapkjfmkkaaaGreatDoor
namespace Go.Proofs
open Go.Shelf
def YtffcapkjfmkkaaaGreatDoor.lays169_ren : Go.Shelf.Ren := ⟨fun | 169 => 23 | n => n, fun | 70 => 50 | 9 => 9 | 0 => 0 | 72 => 53 | 37 => 51 | 127 => 69 | 3 => 3 | 5 => 5 | n => n, fun | n => n⟩
theorem YtffcapkjfmkkaaaGreatDoor.lays169 : Go.Proofs.Lays.n169 Tryz.prog YtffcapkjfmkkaaaGreatDoor.lays169_ren := {
  mixed := by kernel_rfl
  f169 := Tryz.func23.trans (congrArg some (by kernel_rfl))
  t0 := Tryz.underlying0
  a0 := Tryz.isAgg0
  z0 := Tryz.sizeOf0
  v0 := Tryz.zeroValue0
  t3 := Tryz.underlying3
  a3 := Tryz.isAgg3
  z3 := Tryz.sizeOf3
  v3 := Tryz.zeroValue3
  t9 := Tryz.underlying9
  a9 := Tryz.isAgg9
  z9 := Tryz.sizeOf9
  v9 := Tryz.zeroValue9
  t37 := Tryz.underlying51
  a37 := Tryz.isAgg51
  z37 := Tryz.sizeOf51
  v37 := Tryz.zeroValue51
  t70 := Tryz.underlying50
  a70 := Tryz.isAgg50
  z70 := Tryz.sizeOf50
  v70 := Tryz.zeroValue50
  t72 := Tryz.underlying53
  a72 := Tryz.isAgg53
  z72 := Tryz.sizeOf53
  v72 := Tryz.zeroValue53
  t127 := Tryz.underlying69
  a127 := Tryz.isAgg69
  z127 := Tryz.sizeOf69
  v127 := Tryz.zeroValue69 }
theorem YtffcapkjfmkkaaaGreatDoor.Builder_Extra_169 : Builder.Extra Tryz.prog YtffcapkjfmkkaaaGreatDoor.lays169_ren := {
  sizeBuilder := by kernel_rfl
  liesBuilder := by kernel_rfl
  t5 := Tryz.underlying5
  a5 := Tryz.isAgg5
  z5 := Tryz.sizeOf5
  v5 := Tryz.zeroValue5
  infoByte := by kernel_rfl
  cellsByte := by kernel_rfl
  sizeByte := by kernel_rfl
  neB5 := by decide }
open Go.RowKit in
theorem YtffcapkjfmkkaaaGreatDoor.Builder_String (B b : Nat) (l : List UInt8) (w : World) (h : Lib.IsBuilder 53 5 B b (Lib.byteCells l) w) (h0 : l ≠ []) :
    Calls Tryz.prog 23 #[.pointer (some ⟨b, 0, none⟩)] w fun e w' => e = .returned (.string ⟨l.toArray⟩) ∧ Below B w w' := Any.Builder_String YtffcapkjfmkkaaaGreatDoor.lays169 YtffcapkjfmkkaaaGreatDoor.Builder_Extra_169 B b l w h h0
open Go.RowKit in
theorem YtffcapkjfmkkaaaGreatDoor.Builder_String_empty (B b : Nat) (w : World) (h : Lib.IsBuilder 53 5 B b [] w) (hBw : B ≤ w.heap.size) :
    Calls Tryz.prog 23 #[.pointer (some ⟨b, 0, none⟩)] w fun e w' => e = .returned (.string ⟨#[]⟩) ∧ Below B w w' := Any.Builder_String_empty YtffcapkjfmkkaaaGreatDoor.lays169 YtffcapkjfmkkaaaGreatDoor.Builder_Extra_169 B b w h hBw
open Go.RowKit in
theorem YtffcapkjfmkkaaaGreatDoor.Builder_String_any (B b : Nat) (l : List UInt8) (w : World) (h : Lib.IsBuilder 53 5 B b (Lib.byteCells l) w) (hBw : B ≤ w.heap.size) :
    Calls Tryz.prog 23 #[.pointer (some ⟨b, 0, none⟩)] w fun e w' => e = .returned (.string ⟨l.toArray⟩) ∧ Below B w w' := Any.Builder_String_any YtffcapkjfmkkaaaGreatDoor.lays169 YtffcapkjfmkkaaaGreatDoor.Builder_Extra_169 B b l w h hBw
def YtffcapkjfmkkaaaGreatDoor.lays231_ren : Go.Shelf.Ren := ⟨fun | 231 => 39 | n => n, fun | 9 => 9 | 5 => 5 | 3 => 3 | 4 => 4 | n => n, fun | n => n⟩
theorem YtffcapkjfmkkaaaGreatDoor.lays231 : Go.Proofs.Lays.n231 Tryz.prog YtffcapkjfmkkaaaGreatDoor.lays231_ren := {
  mixed := by kernel_rfl
  f231 := Tryz.func39.trans (congrArg some (by kernel_rfl))
  t3 := Tryz.underlying3
  a3 := Tryz.isAgg3
  z3 := Tryz.sizeOf3
  v3 := Tryz.zeroValue3
  t4 := Tryz.underlying4
  a4 := Tryz.isAgg4
  z4 := Tryz.sizeOf4
  v4 := Tryz.zeroValue4
  t5 := Tryz.underlying5
  a5 := Tryz.isAgg5
  z5 := Tryz.sizeOf5
  v5 := Tryz.zeroValue5
  t9 := Tryz.underlying9
  a9 := Tryz.isAgg9
  z9 := Tryz.sizeOf9
  v9 := Tryz.zeroValue9 }
open Go.RowKit in
theorem YtffcapkjfmkkaaaGreatDoor.strings_trimLeftByte (s : ByteArray) (c : UInt8) (w : World) :
    Calls Tryz.prog 39 #[.string s, .int .u8 c.toNat] w fun e w' => e = .returned (.string ⟨(Lib.trimLeftB s.data.toList c).toArray⟩) ∧ w' = w := Any.strings_trimLeftByte YtffcapkjfmkkaaaGreatDoor.lays231 s c w
def YtffcapkjfmkkaaaGreatDoor.lays232_ren : Go.Shelf.Ren := ⟨fun | 232 => 40 | n => n, fun | 9 => 9 | 5 => 5 | 3 => 3 | 4 => 4 | n => n, fun | n => n⟩
theorem YtffcapkjfmkkaaaGreatDoor.lays232 : Go.Proofs.Lays.n232 Tryz.prog YtffcapkjfmkkaaaGreatDoor.lays232_ren := {
  mixed := by kernel_rfl
  f232 := Tryz.func40.trans (congrArg some (by kernel_rfl))
  t3 := Tryz.underlying3
  a3 := Tryz.isAgg3
  z3 := Tryz.sizeOf3
  v3 := Tryz.zeroValue3
  t4 := Tryz.underlying4
  a4 := Tryz.isAgg4
  z4 := Tryz.sizeOf4
  v4 := Tryz.zeroValue4
  t5 := Tryz.underlying5
  a5 := Tryz.isAgg5
  z5 := Tryz.sizeOf5
  v5 := Tryz.zeroValue5
  t9 := Tryz.underlying9
  a9 := Tryz.isAgg9
  z9 := Tryz.sizeOf9
  v9 := Tryz.zeroValue9 }
open Go.RowKit in
theorem YtffcapkjfmkkaaaGreatDoor.strings_trimRightByte (s : ByteArray) (c : UInt8) (w : World) (hs : s.size ≤ 9223372036854775807) :
    Calls Tryz.prog 40 #[.string s, .int .u8 c.toNat] w fun e w' => e = .returned (.string ⟨(Lib.trimRightB s.data.toList c).toArray⟩) ∧ w' = w := Any.strings_trimRightByte YtffcapkjfmkkaaaGreatDoor.lays232 s c w hs
def YtffcapkjfmkkaaaGreatDoor.lays161_ren : Go.Shelf.Ren := ⟨fun | 161 => 66 | 231 => 39 | 227 => 41 | 233 => 42 | 235 => 44 | 228 => 57 | 197 => 58 | 151 => 59 | 260 => 73 | 152 => 61 | 137 => 75 | 119 => 76 | 224 => 77 | 225 => 78 | 217 => 92 | 266 => 101 | n => n, fun | 9 => 9 | 4 => 4 | 3 => 3 | 5 => 5 | 117 => 74 | 116 => 73 | 0 => 0 | 124 => 77 | 105 => 105 | 21 => 21 | 119 => 129 | 46 => 39 | 139 => 138 | 138 => 137 | n => n, fun | 3 => 0 | 4 => 1 | n => n⟩
theorem YtffcapkjfmkkaaaGreatDoor.lays161 : Go.Proofs.Lays.n161 Tryz.prog YtffcapkjfmkkaaaGreatDoor.lays161_ren := {
  mixed := by kernel_rfl
  f119 := Tryz.func76.trans (congrArg some (by kernel_rfl))
  f137 := Tryz.func75.trans (congrArg some (by kernel_rfl))
  f151 := Tryz.func59.trans (congrArg some (by kernel_rfl))
  f152 := Tryz.func61.trans (congrArg some (by kernel_rfl))
  f161 := Tryz.func66.trans (congrArg some (by kernel_rfl))
  f197 := Tryz.func58.trans (congrArg some (by kernel_rfl))
  f217 := Tryz.func92.trans (congrArg some (by kernel_rfl))
  f224 := Tryz.func77.trans (congrArg some (by kernel_rfl))
  f225 := Tryz.func78.trans (congrArg some (by kernel_rfl))
  f227 := Tryz.func41.trans (congrArg some (by kernel_rfl))
  f228 := Tryz.func57.trans (congrArg some (by kernel_rfl))
  f231 := Tryz.func39.trans (congrArg some (by kernel_rfl))
  f233 := Tryz.func42.trans (congrArg some (by kernel_rfl))
  f235 := Tryz.func44.trans (congrArg some (by kernel_rfl))
  f260 := Tryz.func73.trans (congrArg some (by kernel_rfl))
  f266 := Tryz.func101.trans (congrArg some (by kernel_rfl))
  t0 := Tryz.underlying0
  a0 := Tryz.isAgg0
  z0 := Tryz.sizeOf0
  v0 := Tryz.zeroValue0
  t3 := Tryz.underlying3
  a3 := Tryz.isAgg3
  z3 := Tryz.sizeOf3
  v3 := Tryz.zeroValue3
  t4 := Tryz.underlying4
  a4 := Tryz.isAgg4
  z4 := Tryz.sizeOf4
  v4 := Tryz.zeroValue4
  t5 := Tryz.underlying5
  a5 := Tryz.isAgg5
  z5 := Tryz.sizeOf5
  v5 := Tryz.zeroValue5
  t9 := Tryz.underlying9
  a9 := Tryz.isAgg9
  z9 := Tryz.sizeOf9
  v9 := Tryz.zeroValue9
  t21 := Tryz.underlying21
  a21 := Tryz.isAgg21
  z21 := Tryz.sizeOf21
  v21 := Tryz.zeroValue21
  t46 := Tryz.underlying39
  a46 := Tryz.isAgg39
  z46 := Tryz.sizeOf39
  v46 := Tryz.zeroValue39
  t105 := Tryz.underlying105
  a105 := Tryz.isAgg105
  z105 := Tryz.sizeOf105
  v105 := Tryz.zeroValue105
  t116 := Tryz.underlying73
  a116 := Tryz.isAgg73
  z116 := Tryz.sizeOf73
  t117 := Tryz.underlying74
  a117 := Tryz.isAgg74
  z117 := Tryz.sizeOf74
  v117 := Tryz.zeroValue74
  t119 := Tryz.underlying129
  a119 := Tryz.isAgg129
  z119 := Tryz.sizeOf129
  t124 := Tryz.underlying77
  a124 := Tryz.isAgg77
  z124 := Tryz.sizeOf77
  v124 := Tryz.zeroValue77
  t138 := Tryz.underlying137
  a138 := Tryz.isAgg137
  z138 := Tryz.sizeOf137
  v138 := Tryz.zeroValue137
  t139 := Tryz.underlying138
  a139 := Tryz.isAgg138
  z139 := Tryz.sizeOf138
  v139 := Tryz.zeroValue138
  g3 := by kernel_rfl
  g4 := by kernel_rfl }
open Go.RowKit in
theorem YtffcapkjfmkkaaaGreatDoor.strings_TrimLeft_one (s : ByteArray) (c : UInt8) (hc : c.toNat < 128) (w : World) :
    Calls Tryz.prog 66 #[.string s, .string ⟨#[c]⟩] w fun e w' => e = .returned (.string ⟨(Lib.trimLeftB s.data.toList c).toArray⟩) ∧ w' = w := Any.strings_TrimLeft_one YtffcapkjfmkkaaaGreatDoor.lays161 s c hc w
def YtffcapkjfmkkaaaGreatDoor.lays162_ren : Go.Shelf.Ren := ⟨fun | 162 => 81 | 232 => 40 | 227 => 41 | 234 => 43 | 236 => 45 | 228 => 57 | 271 => 60 | 151 => 59 | 120 => 74 | 197 => 58 | 152 => 61 | 260 => 73 | 137 => 75 | 119 => 76 | 224 => 77 | 225 => 78 | 217 => 92 | 266 => 101 | n => n, fun | 9 => 9 | 4 => 4 | 3 => 3 | 5 => 5 | 117 => 74 | 116 => 73 | 0 => 0 | 124 => 77 | 21 => 21 | 105 => 105 | 46 => 39 | 119 => 129 | 139 => 138 | 138 => 137 | n => n, fun | 3 => 0 | 4 => 1 | n => n⟩
theorem YtffcapkjfmkkaaaGreatDoor.lays162 : Go.Proofs.Lays.n162 Tryz.prog YtffcapkjfmkkaaaGreatDoor.lays162_ren := {
  mixed := by kernel_rfl
  f119 := Tryz.func76.trans (congrArg some (by kernel_rfl))
  f120 := Tryz.func74.trans (congrArg some (by kernel_rfl))
  f137 := Tryz.func75.trans (congrArg some (by kernel_rfl))
  f151 := Tryz.func59.trans (congrArg some (by kernel_rfl))
  f152 := Tryz.func61.trans (congrArg some (by kernel_rfl))
  f162 := Tryz.func81.trans (congrArg some (by kernel_rfl))
  f197 := Tryz.func58.trans (congrArg some (by kernel_rfl))
  f217 := Tryz.func92.trans (congrArg some (by kernel_rfl))
  f224 := Tryz.func77.trans (congrArg some (by kernel_rfl))
  f225 := Tryz.func78.trans (congrArg some (by kernel_rfl))
  f227 := Tryz.func41.trans (congrArg some (by kernel_rfl))
  f228 := Tryz.func57.trans (congrArg some (by kernel_rfl))
  f232 := Tryz.func40.trans (congrArg some (by kernel_rfl))
  f234 := Tryz.func43.trans (congrArg some (by kernel_rfl))
  f236 := Tryz.func45.trans (congrArg some (by kernel_rfl))
  f260 := Tryz.func73.trans (congrArg some (by kernel_rfl))
  f266 := Tryz.func101.trans (congrArg some (by kernel_rfl))
  f271 := Tryz.func60.trans (congrArg some (by kernel_rfl))
  t0 := Tryz.underlying0
  a0 := Tryz.isAgg0
  z0 := Tryz.sizeOf0
  v0 := Tryz.zeroValue0
  t3 := Tryz.underlying3
  a3 := Tryz.isAgg3
  z3 := Tryz.sizeOf3
  v3 := Tryz.zeroValue3
  t4 := Tryz.underlying4
  a4 := Tryz.isAgg4
  z4 := Tryz.sizeOf4
  v4 := Tryz.zeroValue4
  t5 := Tryz.underlying5
  a5 := Tryz.isAgg5
  z5 := Tryz.sizeOf5
  v5 := Tryz.zeroValue5
  t9 := Tryz.underlying9
  a9 := Tryz.isAgg9
  z9 := Tryz.sizeOf9
  v9 := Tryz.zeroValue9
  t21 := Tryz.underlying21
  a21 := Tryz.isAgg21
  z21 := Tryz.sizeOf21
  v21 := Tryz.zeroValue21
  t46 := Tryz.underlying39
  a46 := Tryz.isAgg39
  z46 := Tryz.sizeOf39
  v46 := Tryz.zeroValue39
  t105 := Tryz.underlying105
  a105 := Tryz.isAgg105
  z105 := Tryz.sizeOf105
  v105 := Tryz.zeroValue105
  t116 := Tryz.underlying73
  a116 := Tryz.isAgg73
  z116 := Tryz.sizeOf73
  t117 := Tryz.underlying74
  a117 := Tryz.isAgg74
  z117 := Tryz.sizeOf74
  v117 := Tryz.zeroValue74
  t119 := Tryz.underlying129
  a119 := Tryz.isAgg129
  z119 := Tryz.sizeOf129
  t124 := Tryz.underlying77
  a124 := Tryz.isAgg77
  z124 := Tryz.sizeOf77
  v124 := Tryz.zeroValue77
  t138 := Tryz.underlying137
  a138 := Tryz.isAgg137
  z138 := Tryz.sizeOf137
  v138 := Tryz.zeroValue137
  t139 := Tryz.underlying138
  a139 := Tryz.isAgg138
  z139 := Tryz.sizeOf138
  v139 := Tryz.zeroValue138
  g3 := by kernel_rfl
  g4 := by kernel_rfl }
open Go.RowKit in
theorem YtffcapkjfmkkaaaGreatDoor.strings_TrimRight_one (s : ByteArray) (c : UInt8) (hc : c.toNat < 128) (w : World) (hs : s.size ≤ 9223372036854775807) :
    Calls Tryz.prog 81 #[.string s, .string ⟨#[c]⟩] w fun e w' => e = .returned (.string ⟨(Lib.trimRightB s.data.toList c).toArray⟩) ∧ w' = w := Any.strings_TrimRight_one YtffcapkjfmkkaaaGreatDoor.lays162 s c hc w hs
def YtffcapkjfmkkaaaGreatDoor.lays160_ren : Go.Shelf.Ren := ⟨fun | 160 => 27 | 232 => 40 | 231 => 39 | 227 => 41 | 234 => 43 | 233 => 42 | 236 => 45 | 235 => 44 | 228 => 57 | 271 => 60 | 151 => 59 | 197 => 58 | 120 => 74 | 152 => 61 | 260 => 73 | 137 => 75 | 119 => 76 | 224 => 77 | 225 => 78 | 217 => 92 | 266 => 101 | n => n, fun | 9 => 9 | 4 => 4 | 3 => 3 | 5 => 5 | 117 => 74 | 116 => 73 | 0 => 0 | 124 => 77 | 21 => 21 | 105 => 105 | 46 => 39 | 119 => 129 | 139 => 138 | 138 => 137 | n => n, fun | 3 => 0 | 4 => 1 | n => n⟩
theorem YtffcapkjfmkkaaaGreatDoor.lays160 : Go.Proofs.Lays.n160 Tryz.prog YtffcapkjfmkkaaaGreatDoor.lays160_ren := {
  mixed := by kernel_rfl
  f119 := Tryz.func76.trans (congrArg some (by kernel_rfl))
  f120 := Tryz.func74.trans (congrArg some (by kernel_rfl))
  f137 := Tryz.func75.trans (congrArg some (by kernel_rfl))
  f151 := Tryz.func59.trans (congrArg some (by kernel_rfl))
  f152 := Tryz.func61.trans (congrArg some (by kernel_rfl))
  f160 := Tryz.func27.trans (congrArg some (by kernel_rfl))
  f197 := Tryz.func58.trans (congrArg some (by kernel_rfl))
  f217 := Tryz.func92.trans (congrArg some (by kernel_rfl))
  f224 := Tryz.func77.trans (congrArg some (by kernel_rfl))
  f225 := Tryz.func78.trans (congrArg some (by kernel_rfl))
  f227 := Tryz.func41.trans (congrArg some (by kernel_rfl))
  f228 := Tryz.func57.trans (congrArg some (by kernel_rfl))
  f231 := Tryz.func39.trans (congrArg some (by kernel_rfl))
  f232 := Tryz.func40.trans (congrArg some (by kernel_rfl))
  f233 := Tryz.func42.trans (congrArg some (by kernel_rfl))
  f234 := Tryz.func43.trans (congrArg some (by kernel_rfl))
  f235 := Tryz.func44.trans (congrArg some (by kernel_rfl))
  f236 := Tryz.func45.trans (congrArg some (by kernel_rfl))
  f260 := Tryz.func73.trans (congrArg some (by kernel_rfl))
  f266 := Tryz.func101.trans (congrArg some (by kernel_rfl))
  f271 := Tryz.func60.trans (congrArg some (by kernel_rfl))
  t0 := Tryz.underlying0
  a0 := Tryz.isAgg0
  z0 := Tryz.sizeOf0
  v0 := Tryz.zeroValue0
  t3 := Tryz.underlying3
  a3 := Tryz.isAgg3
  z3 := Tryz.sizeOf3
  v3 := Tryz.zeroValue3
  t4 := Tryz.underlying4
  a4 := Tryz.isAgg4
  z4 := Tryz.sizeOf4
  v4 := Tryz.zeroValue4
  t5 := Tryz.underlying5
  a5 := Tryz.isAgg5
  z5 := Tryz.sizeOf5
  v5 := Tryz.zeroValue5
  t9 := Tryz.underlying9
  a9 := Tryz.isAgg9
  z9 := Tryz.sizeOf9
  v9 := Tryz.zeroValue9
  t21 := Tryz.underlying21
  a21 := Tryz.isAgg21
  z21 := Tryz.sizeOf21
  v21 := Tryz.zeroValue21
  t46 := Tryz.underlying39
  a46 := Tryz.isAgg39
  z46 := Tryz.sizeOf39
  v46 := Tryz.zeroValue39
  t105 := Tryz.underlying105
  a105 := Tryz.isAgg105
  z105 := Tryz.sizeOf105
  v105 := Tryz.zeroValue105
  t116 := Tryz.underlying73
  a116 := Tryz.isAgg73
  z116 := Tryz.sizeOf73
  t117 := Tryz.underlying74
  a117 := Tryz.isAgg74
  z117 := Tryz.sizeOf74
  v117 := Tryz.zeroValue74
  t119 := Tryz.underlying129
  a119 := Tryz.isAgg129
  z119 := Tryz.sizeOf129
  t124 := Tryz.underlying77
  a124 := Tryz.isAgg77
  z124 := Tryz.sizeOf77
  v124 := Tryz.zeroValue77
  t138 := Tryz.underlying137
  a138 := Tryz.isAgg137
  z138 := Tryz.sizeOf137
  v138 := Tryz.zeroValue137
  t139 := Tryz.underlying138
  a139 := Tryz.isAgg138
  z139 := Tryz.sizeOf138
  v139 := Tryz.zeroValue138
  g3 := by kernel_rfl
  g4 := by kernel_rfl }
open Go.RowKit in
theorem YtffcapkjfmkkaaaGreatDoor.strings_Trim_one (s : ByteArray) (c : UInt8) (hc : c.toNat < 128) (w : World) (hs : s.size ≤ 9223372036854775807) :
    Calls Tryz.prog 27 #[.string s, .string ⟨#[c]⟩] w fun e w' => e = .returned (.string ⟨(Lib.trimB s.data.toList c).toArray⟩) ∧ (w' = w ∨ w' = w.drew) := Any.strings_Trim_one YtffcapkjfmkkaaaGreatDoor.lays160 s c hc w hs
def YtffcapkjfmkkaaaGreatDoor.lays119_ren : Go.Shelf.Ren := ⟨fun | 119 => 76 | n => n, fun | 21 => 21 | 4 => 4 | n => n, fun | n => n⟩
theorem YtffcapkjfmkkaaaGreatDoor.lays119 : Go.Proofs.Lays.n119 Tryz.prog YtffcapkjfmkkaaaGreatDoor.lays119_ren := {
  mixed := by kernel_rfl
  f119 := Tryz.func76.trans (congrArg some (by kernel_rfl))
  t4 := Tryz.underlying4
  a4 := Tryz.isAgg4
  z4 := Tryz.sizeOf4
  v4 := Tryz.zeroValue4
  t21 := Tryz.underlying21
  a21 := Tryz.isAgg21
  z21 := Tryz.sizeOf21
  v21 := Tryz.zeroValue21 }
theorem YtffcapkjfmkkaaaGreatDoor.utf8_ValidRune (r : Int) (w : World) :
    Calls Tryz.prog 76 #[.int .i32 r] w fun e w' => e = .returned (.bool (Lib.validRune r)) ∧ w' = w := Any.utf8_ValidRune YtffcapkjfmkkaaaGreatDoor.lays119 r w
def YtffcapkjfmkkaaaGreatDoor.lays120_ren : Go.Shelf.Ren := ⟨fun | 120 => 74 | n => n, fun | 5 => 5 | 4 => 4 | n => n, fun | n => n⟩
theorem YtffcapkjfmkkaaaGreatDoor.lays120 : Go.Proofs.Lays.n120 Tryz.prog YtffcapkjfmkkaaaGreatDoor.lays120_ren := {
  mixed := by kernel_rfl
  f120 := Tryz.func74.trans (congrArg some (by kernel_rfl))
  t4 := Tryz.underlying4
  a4 := Tryz.isAgg4
  z4 := Tryz.sizeOf4
  v4 := Tryz.zeroValue4
  t5 := Tryz.underlying5
  a5 := Tryz.isAgg5
  z5 := Tryz.sizeOf5
  v5 := Tryz.zeroValue5 }
theorem YtffcapkjfmkkaaaGreatDoor.utf8_RuneStart (b : Int) (w : World) (h0 : 0 ≤ b) (h1 : b < 256) :
    Calls Tryz.prog 74 #[.int .u8 b] w fun e w' => e = .returned (.bool (Lib.runeStart b)) ∧ w' = w := Any.utf8_RuneStart YtffcapkjfmkkaaaGreatDoor.lays120 b w h0 h1
def YtffcapkjfmkkaaaGreatDoor.lays137_ren : Go.Shelf.Ren := ⟨fun | 137 => 75 | 217 => 92 | 266 => 101 | n => n, fun | 9 => 9 | 5 => 5 | 3 => 3 | n => n, fun | n => n⟩
theorem YtffcapkjfmkkaaaGreatDoor.lays137 : Go.Proofs.Lays.n137 Tryz.prog YtffcapkjfmkkaaaGreatDoor.lays137_ren := {
  mixed := by kernel_rfl
  f137 := Tryz.func75.trans (congrArg some (by kernel_rfl))
  f217 := Tryz.func92.trans (congrArg some (by kernel_rfl))
  f266 := Tryz.func101.trans (congrArg some (by kernel_rfl))
  t3 := Tryz.underlying3
  a3 := Tryz.isAgg3
  z3 := Tryz.sizeOf3
  v3 := Tryz.zeroValue3
  t5 := Tryz.underlying5
  a5 := Tryz.isAgg5
  z5 := Tryz.sizeOf5
  v5 := Tryz.zeroValue5
  t9 := Tryz.underlying9
  a9 := Tryz.isAgg9
  z9 := Tryz.sizeOf9
  v9 := Tryz.zeroValue9 }
open Go.RowKit in
theorem YtffcapkjfmkkaaaGreatDoor.strings_IndexByte (s : ByteArray) (c : Int) (w : World) :
    Calls Tryz.prog 75 #[.string s, .int .u8 c] w fun e w' => e = .returned (.int .i64 (Lib.indexByte s.data.toList c.toNat.toUInt8)) ∧ w' = w := Any.strings_IndexByte YtffcapkjfmkkaaaGreatDoor.lays137 s c w
def YtffcapkjfmkkaaaGreatDoor.lays210_ren : Go.Shelf.Ren := ⟨fun | 210 => 79 | 206 => 80 | n => n, fun | 9 => 9 | 4 => 4 | 3 => 3 | n => n, fun | n => n⟩
theorem YtffcapkjfmkkaaaGreatDoor.lays210 : Go.Proofs.Lays.n210 Tryz.prog YtffcapkjfmkkaaaGreatDoor.lays210_ren := {
  mixed := by kernel_rfl
  f206 := Tryz.func80.trans (congrArg some (by kernel_rfl))
  f210 := Tryz.func79.trans (congrArg some (by kernel_rfl))
  t3 := Tryz.underlying3
  a3 := Tryz.isAgg3
  z3 := Tryz.sizeOf3
  v3 := Tryz.zeroValue3
  t4 := Tryz.underlying4
  a4 := Tryz.isAgg4
  z4 := Tryz.sizeOf4
  v4 := Tryz.zeroValue4
  t9 := Tryz.underlying9
  a9 := Tryz.isAgg9
  z9 := Tryz.sizeOf9
  v9 := Tryz.zeroValue9 }
open Go.RowKit in
theorem YtffcapkjfmkkaaaGreatDoor.stringslite_CutPrefix (s p : ByteArray) (w : World) :
    Calls Tryz.prog 79 #[.string s, .string p] w fun e w' => e = .returned (.tuple #[.string ⟨(Lib.trimPrefix s.data.toList p.data.toList).toArray⟩, .bool (Lib.hasPrefix s.data.toList p.data.toList)]) ∧ w' = w := Any.stringslite_CutPrefix YtffcapkjfmkkaaaGreatDoor.lays210 s p w
def YtffcapkjfmkkaaaGreatDoor.lays103_ren : Go.Shelf.Ren := ⟨fun | 103 => 63 | 210 => 79 | 206 => 80 | n => n, fun | 9 => 9 | 4 => 4 | 24 => 47 | 3 => 3 | n => n, fun | n => n⟩
theorem YtffcapkjfmkkaaaGreatDoor.lays103 : Go.Proofs.Lays.n103 Tryz.prog YtffcapkjfmkkaaaGreatDoor.lays103_ren := {
  mixed := by kernel_rfl
  f103 := Tryz.func63.trans (congrArg some (by kernel_rfl))
  f206 := Tryz.func80.trans (congrArg some (by kernel_rfl))
  f210 := Tryz.func79.trans (congrArg some (by kernel_rfl))
  t3 := Tryz.underlying3
  a3 := Tryz.isAgg3
  z3 := Tryz.sizeOf3
  v3 := Tryz.zeroValue3
  t4 := Tryz.underlying4
  a4 := Tryz.isAgg4
  z4 := Tryz.sizeOf4
  v4 := Tryz.zeroValue4
  t9 := Tryz.underlying9
  a9 := Tryz.isAgg9
  z9 := Tryz.sizeOf9
  v9 := Tryz.zeroValue9
  t24 := Tryz.underlying47
  a24 := Tryz.isAgg47
  z24 := Tryz.sizeOf47
  v24 := Tryz.zeroValue47 }
open Go.RowKit in
theorem YtffcapkjfmkkaaaGreatDoor.strings_CutPrefix (s p : ByteArray) (w : World) :
    Calls Tryz.prog 63 #[.string s, .string p] w fun e w' => e = .returned (.tuple #[.string ⟨(Lib.trimPrefix s.data.toList p.data.toList).toArray⟩, .bool (Lib.hasPrefix s.data.toList p.data.toList)]) ∧ w' = w := Any.strings_CutPrefix YtffcapkjfmkkaaaGreatDoor.lays103 s p w
open Go.RowKit in
theorem YtffcapkjfmkkaaaGreatDoor.Builder_String_f (B b : Nat) (l : List UInt8) (w : World) (h : Lib.IsBuilderF 53 5 B b (Lib.byteCells l) w) (h0 : l ≠ []) :
    Calls Tryz.prog 23 #[.pointer (some ⟨b, 0, none⟩)] w fun e w' => e = .returned (.string ⟨l.toArray⟩) ∧ (Lib.IsBuilderF 53 5 B b (Lib.byteCells l) w' ∧ Below B w w') := Any.Builder_String_f YtffcapkjfmkkaaaGreatDoor.lays169 YtffcapkjfmkkaaaGreatDoor.Builder_Extra_169 B b l w h h0
open Go.RowKit in
theorem YtffcapkjfmkkaaaGreatDoor.Builder_String_empty_f (B b : Nat) (w : World) (h : Lib.IsBuilderF 53 5 B b [] w) (hBw : B ≤ w.heap.size) :
    Calls Tryz.prog 23 #[.pointer (some ⟨b, 0, none⟩)] w fun e w' => e = .returned (.string ⟨#[]⟩) ∧ (Lib.IsBuilderF 53 5 B b [] w' ∧ Below B w w') := Any.Builder_String_empty_f YtffcapkjfmkkaaaGreatDoor.lays169 YtffcapkjfmkkaaaGreatDoor.Builder_Extra_169 B b w h hBw
open Go.RowKit in
theorem YtffcapkjfmkkaaaGreatDoor.Builder_String_any_f (B b : Nat) (l : List UInt8) (w : World) (h : Lib.IsBuilderF 53 5 B b (Lib.byteCells l) w) (hBw : B ≤ w.heap.size) :
    Calls Tryz.prog 23 #[.pointer (some ⟨b, 0, none⟩)] w fun e w' => e = .returned (.string ⟨l.toArray⟩) ∧ (Lib.IsBuilderF 53 5 B b (Lib.byteCells l) w' ∧ Below B w w') := Any.Builder_String_any_f YtffcapkjfmkkaaaGreatDoor.lays169 YtffcapkjfmkkaaaGreatDoor.Builder_Extra_169 B b l w h hBw
open Go.RowKit in
theorem YtffcapkjfmkkaaaGreatDoor.Builder_String_k (B b : Nat) (l : List UInt8) (w : World) (h : Lib.IsBuilderF 53 5 B b (Lib.byteCells l) w) (h0 : l ≠ []) :
    Calls Tryz.prog 23 #[.pointer (some ⟨b, 0, none⟩)] w fun e w' => e = .returned (.string ⟨l.toArray⟩) ∧ (Lib.IsBuilderF 53 5 B b (Lib.byteCells l) w' ∧ Below B w w' ∧ Lib.OthersKept 5 (some b) w w') := Any.Builder_String_k YtffcapkjfmkkaaaGreatDoor.lays169 YtffcapkjfmkkaaaGreatDoor.Builder_Extra_169 B b l w h h0
open Go.RowKit in
theorem YtffcapkjfmkkaaaGreatDoor.Builder_String_empty_k (B b : Nat) (w : World) (h : Lib.IsBuilderF 53 5 B b [] w) (hBw : B ≤ w.heap.size) :
    Calls Tryz.prog 23 #[.pointer (some ⟨b, 0, none⟩)] w fun e w' => e = .returned (.string ⟨#[]⟩) ∧ (Lib.IsBuilderF 53 5 B b [] w' ∧ Below B w w' ∧ Lib.OthersKept 5 (some b) w w') := Any.Builder_String_empty_k YtffcapkjfmkkaaaGreatDoor.lays169 YtffcapkjfmkkaaaGreatDoor.Builder_Extra_169 B b w h hBw
open Go.RowKit in
theorem YtffcapkjfmkkaaaGreatDoor.Builder_String_any_k (B b : Nat) (l : List UInt8) (w : World) (h : Lib.IsBuilderF 53 5 B b (Lib.byteCells l) w) (hBw : B ≤ w.heap.size) :
    Calls Tryz.prog 23 #[.pointer (some ⟨b, 0, none⟩)] w fun e w' => e = .returned (.string ⟨l.toArray⟩) ∧ (Lib.IsBuilderF 53 5 B b (Lib.byteCells l) w' ∧ Below B w w' ∧ Lib.OthersKept 5 (some b) w w') := Any.Builder_String_any_k YtffcapkjfmkkaaaGreatDoor.lays169 YtffcapkjfmkkaaaGreatDoor.Builder_Extra_169 B b l w h hBw
def YtffcapkjfmkkaaaGreatDoor.lays217_ren : Go.Shelf.Ren := ⟨fun | 217 => 92 | 266 => 101 | n => n, fun | 9 => 9 | 5 => 5 | 3 => 3 | n => n, fun | n => n⟩
theorem YtffcapkjfmkkaaaGreatDoor.lays217 : Go.Proofs.Lays.n217 Tryz.prog YtffcapkjfmkkaaaGreatDoor.lays217_ren := {
  mixed := by kernel_rfl
  f217 := Tryz.func92.trans (congrArg some (by kernel_rfl))
  f266 := Tryz.func101.trans (congrArg some (by kernel_rfl))
  t3 := Tryz.underlying3
  a3 := Tryz.isAgg3
  z3 := Tryz.sizeOf3
  v3 := Tryz.zeroValue3
  t5 := Tryz.underlying5
  a5 := Tryz.isAgg5
  z5 := Tryz.sizeOf5
  v5 := Tryz.zeroValue5
  t9 := Tryz.underlying9
  a9 := Tryz.isAgg9
  z9 := Tryz.sizeOf9
  v9 := Tryz.zeroValue9 }
open Go.RowKit Go.Lib in
theorem YtffcapkjfmkkaaaGreatDoor.stringslite_IndexByte (s : ByteArray) (c : Int) (w : World) :
    Calls Tryz.prog 92 #[.string s, .int .u8 c] w fun e w' => e = .returned (.int .i64 (Lib.indexByte s.data.toList c.toNat.toUInt8)) ∧ w' = w := Any.stringslite_IndexByte YtffcapkjfmkkaaaGreatDoor.lays217 s c w
def YtffcapkjfmkkaaaGreatDoor.lays224_ren : Go.Shelf.Ren := ⟨fun | 224 => 77 | n => n, fun | 3 => 3 | n => n, fun | n => n⟩
theorem YtffcapkjfmkkaaaGreatDoor.lays224 : Go.Proofs.Lays.n224 Tryz.prog YtffcapkjfmkkaaaGreatDoor.lays224_ren := {
  mixed := by kernel_rfl
  f224 := Tryz.func77.trans (congrArg some (by kernel_rfl))
  t3 := Tryz.underlying3
  a3 := Tryz.isAgg3
  z3 := Tryz.sizeOf3
  v3 := Tryz.zeroValue3 }
open Go.RowKit Go.Lib in
theorem YtffcapkjfmkkaaaGreatDoor.bytealg_Cutover (n : Int) (h0 : 0 ≤ n) (h1 : n < 4611686018427387904) (w : World) :
    Calls Tryz.prog 77 #[.int .i64 n] w fun e w' => e = .returned (.int .i64 ((n + 16) / 8)) ∧ w' = w := Any.bytealg_Cutover YtffcapkjfmkkaaaGreatDoor.lays224 n h0 h1 w
def YtffcapkjfmkkaaaGreatDoor.lays314_ren : Go.Shelf.Ren := ⟨fun | 314 => 112 | n => n, fun | 9 => 9 | 51 => 90 | 3 => 3 | 4 => 4 | 5 => 5 | 46 => 39 | n => n, fun | n => n⟩
theorem YtffcapkjfmkkaaaGreatDoor.lays314 : Go.Proofs.Lays.n314 Tryz.prog YtffcapkjfmkkaaaGreatDoor.lays314_ren := {
  mixed := by kernel_rfl
  f314 := Tryz.func112.trans (congrArg some (by kernel_rfl))
  t3 := Tryz.underlying3
  a3 := Tryz.isAgg3
  z3 := Tryz.sizeOf3
  v3 := Tryz.zeroValue3
  t4 := Tryz.underlying4
  a4 := Tryz.isAgg4
  z4 := Tryz.sizeOf4
  v4 := Tryz.zeroValue4
  t5 := Tryz.underlying5
  a5 := Tryz.isAgg5
  z5 := Tryz.sizeOf5
  v5 := Tryz.zeroValue5
  t9 := Tryz.underlying9
  a9 := Tryz.isAgg9
  z9 := Tryz.sizeOf9
  v9 := Tryz.zeroValue9
  t46 := Tryz.underlying39
  a46 := Tryz.isAgg39
  z46 := Tryz.sizeOf39
  v46 := Tryz.zeroValue39
  t51 := Tryz.underlying90
  a51 := Tryz.isAgg90
  z51 := Tryz.sizeOf90
  v51 := Tryz.zeroValue90 }
open Go.RowKit Go.Lib in
theorem YtffcapkjfmkkaaaGreatDoor.bytealg_hashStr (sep : ByteArray) (hs : sep.size < 4294967281) (w : World) :
    Calls Tryz.prog 112 #[.string sep] w fun e w' => e = .returned (.tuple #[.int .u32 (RK.H sep.data.toList % 4294967296), .int .u32 (16777619 ^ sep.size % 4294967296)]) ∧ w' = w := Any.bytealg_hashStr YtffcapkjfmkkaaaGreatDoor.lays314 sep hs w
def YtffcapkjfmkkaaaGreatDoor.lays267_ren : Go.Shelf.Ren := ⟨fun | 267 => 102 | 314 => 112 | n => n, fun | 9 => 9 | 3 => 3 | 146 => 163 | 51 => 90 | 4 => 4 | 5 => 5 | 46 => 39 | n => n, fun | n => n⟩
theorem YtffcapkjfmkkaaaGreatDoor.lays267 : Go.Proofs.Lays.n267 Tryz.prog YtffcapkjfmkkaaaGreatDoor.lays267_ren := {
  mixed := by kernel_rfl
  f267 := Tryz.func102.trans (congrArg some (by kernel_rfl))
  f314 := Tryz.func112.trans (congrArg some (by kernel_rfl))
  t3 := Tryz.underlying3
  a3 := Tryz.isAgg3
  z3 := Tryz.sizeOf3
  v3 := Tryz.zeroValue3
  t4 := Tryz.underlying4
  a4 := Tryz.isAgg4
  z4 := Tryz.sizeOf4
  v4 := Tryz.zeroValue4
  t5 := Tryz.underlying5
  a5 := Tryz.isAgg5
  z5 := Tryz.sizeOf5
  v5 := Tryz.zeroValue5
  t9 := Tryz.underlying9
  a9 := Tryz.isAgg9
  z9 := Tryz.sizeOf9
  v9 := Tryz.zeroValue9
  t46 := Tryz.underlying39
  a46 := Tryz.isAgg39
  z46 := Tryz.sizeOf39
  v46 := Tryz.zeroValue39
  t51 := Tryz.underlying90
  a51 := Tryz.isAgg90
  z51 := Tryz.sizeOf90
  v51 := Tryz.zeroValue90
  t146 := Tryz.underlying163
  a146 := Tryz.isAgg163
  z146 := Tryz.sizeOf163
  v146 := Tryz.zeroValue163 }
open Go.RowKit Go.Lib in
theorem YtffcapkjfmkkaaaGreatDoor.bytealg_IndexRabinKarp (s sep : ByteArray) (h1 : 1 ≤ sep.size) (h2 : sep.size ≤ s.size) (hs : s.size < 4294967281) (w : World) :
    Calls Tryz.prog 102 #[.string s, .string sep] w fun e w' => e = .returned (.int .i64 (Lib.index s.data.toList sep.data.toList)) ∧ w' = w := Any.bytealg_IndexRabinKarp YtffcapkjfmkkaaaGreatDoor.lays267 s sep h1 h2 hs w
def YtffcapkjfmkkaaaGreatDoor.lays219_ren : Go.Shelf.Ren := ⟨fun | 219 => 94 | 217 => 92 | 225 => 78 | 224 => 77 | 267 => 102 | 266 => 101 | 314 => 112 | n => n, fun | 9 => 9 | 3 => 3 | 4 => 4 | 5 => 5 | 46 => 39 | 146 => 163 | 51 => 90 | n => n, fun | 1 => 2 | n => n⟩
theorem YtffcapkjfmkkaaaGreatDoor.lays219 : Go.Proofs.Lays.n219 Tryz.prog YtffcapkjfmkkaaaGreatDoor.lays219_ren := {
  mixed := by kernel_rfl
  f217 := Tryz.func92.trans (congrArg some (by kernel_rfl))
  f219 := Tryz.func94.trans (congrArg some (by kernel_rfl))
  f224 := Tryz.func77.trans (congrArg some (by kernel_rfl))
  f225 := Tryz.func78.trans (congrArg some (by kernel_rfl))
  f266 := Tryz.func101.trans (congrArg some (by kernel_rfl))
  f267 := Tryz.func102.trans (congrArg some (by kernel_rfl))
  f314 := Tryz.func112.trans (congrArg some (by kernel_rfl))
  t3 := Tryz.underlying3
  a3 := Tryz.isAgg3
  z3 := Tryz.sizeOf3
  v3 := Tryz.zeroValue3
  t4 := Tryz.underlying4
  a4 := Tryz.isAgg4
  z4 := Tryz.sizeOf4
  v4 := Tryz.zeroValue4
  t5 := Tryz.underlying5
  a5 := Tryz.isAgg5
  z5 := Tryz.sizeOf5
  v5 := Tryz.zeroValue5
  t9 := Tryz.underlying9
  a9 := Tryz.isAgg9
  z9 := Tryz.sizeOf9
  v9 := Tryz.zeroValue9
  t46 := Tryz.underlying39
  a46 := Tryz.isAgg39
  z46 := Tryz.sizeOf39
  v46 := Tryz.zeroValue39
  t51 := Tryz.underlying90
  a51 := Tryz.isAgg90
  z51 := Tryz.sizeOf90
  v51 := Tryz.zeroValue90
  t146 := Tryz.underlying163
  a146 := Tryz.isAgg163
  z146 := Tryz.sizeOf163
  v146 := Tryz.zeroValue163
  g1 := by kernel_rfl }
open Go.RowKit Go.Lib in
theorem YtffcapkjfmkkaaaGreatDoor.stringslite_Index_one (s : ByteArray) (c : UInt8) (w : World) :
    Calls Tryz.prog 94 #[.string s, .string ⟨#[c]⟩] w fun e w' => e = .returned (.int .i64 (Lib.indexByte s.data.toList c)) ∧ w' = w := Any.stringslite_Index_one YtffcapkjfmkkaaaGreatDoor.lays219 s c w
open Go.RowKit Go.Lib in
theorem YtffcapkjfmkkaaaGreatDoor.stringslite_Index (s sub : ByteArray) (m : Int) (w : World) (hs : s.size < 4294967281) (hm : w.cell? ⟨2, 0, none⟩ = some (.int .i64 m)) :
    Calls Tryz.prog 94 #[.string s, .string sub] w fun e w' => e = .returned (.int .i64 (Lib.index s.data.toList sub.data.toList)) ∧ w' = w := Any.stringslite_Index YtffcapkjfmkkaaaGreatDoor.lays219 s sub m w hs hm
def YtffcapkjfmkkaaaGreatDoor.lays143_ren : Go.Shelf.Ren := ⟨fun | 143 => 83 | 219 => 94 | 217 => 92 | 225 => 78 | 224 => 77 | 267 => 102 | 266 => 101 | 314 => 112 | n => n, fun | 9 => 9 | 3 => 3 | 4 => 4 | 5 => 5 | 46 => 39 | 146 => 163 | 51 => 90 | n => n, fun | 1 => 2 | n => n⟩
theorem YtffcapkjfmkkaaaGreatDoor.lays143 : Go.Proofs.Lays.n143 Tryz.prog YtffcapkjfmkkaaaGreatDoor.lays143_ren := {
  mixed := by kernel_rfl
  f143 := Tryz.func83.trans (congrArg some (by kernel_rfl))
  f217 := Tryz.func92.trans (congrArg some (by kernel_rfl))
  f219 := Tryz.func94.trans (congrArg some (by kernel_rfl))
  f224 := Tryz.func77.trans (congrArg some (by kernel_rfl))
  f225 := Tryz.func78.trans (congrArg some (by kernel_rfl))
  f266 := Tryz.func101.trans (congrArg some (by kernel_rfl))
  f267 := Tryz.func102.trans (congrArg some (by kernel_rfl))
  f314 := Tryz.func112.trans (congrArg some (by kernel_rfl))
  t3 := Tryz.underlying3
  a3 := Tryz.isAgg3
  z3 := Tryz.sizeOf3
  v3 := Tryz.zeroValue3
  t4 := Tryz.underlying4
  a4 := Tryz.isAgg4
  z4 := Tryz.sizeOf4
  v4 := Tryz.zeroValue4
  t5 := Tryz.underlying5
  a5 := Tryz.isAgg5
  z5 := Tryz.sizeOf5
  v5 := Tryz.zeroValue5
  t9 := Tryz.underlying9
  a9 := Tryz.isAgg9
  z9 := Tryz.sizeOf9
  v9 := Tryz.zeroValue9
  t46 := Tryz.underlying39
  a46 := Tryz.isAgg39
  z46 := Tryz.sizeOf39
  v46 := Tryz.zeroValue39
  t51 := Tryz.underlying90
  a51 := Tryz.isAgg90
  z51 := Tryz.sizeOf90
  v51 := Tryz.zeroValue90
  t146 := Tryz.underlying163
  a146 := Tryz.isAgg163
  z146 := Tryz.sizeOf163
  v146 := Tryz.zeroValue163
  g1 := by kernel_rfl }
open Go.RowKit Go.Lib in
theorem YtffcapkjfmkkaaaGreatDoor.strings_Index_one (s : ByteArray) (c : UInt8) (w : World) :
    Calls Tryz.prog 83 #[.string s, .string ⟨#[c]⟩] w fun e w' => e = .returned (.int .i64 (Lib.indexByte s.data.toList c)) ∧ w' = w := Any.strings_Index_one YtffcapkjfmkkaaaGreatDoor.lays143 s c w
open Go.RowKit Go.Lib in
theorem YtffcapkjfmkkaaaGreatDoor.strings_Index (s sub : ByteArray) (m : Int) (w : World) (hs : s.size < 4294967281) (hm : w.cell? ⟨2, 0, none⟩ = some (.int .i64 m)) :
    Calls Tryz.prog 83 #[.string s, .string sub] w fun e w' => e = .returned (.int .i64 (Lib.index s.data.toList sub.data.toList)) ∧ w' = w := Any.strings_Index YtffcapkjfmkkaaaGreatDoor.lays143 s sub m w hs hm
def YtffcapkjfmkkaaaGreatDoor.lays144_ren : Go.Shelf.Ren := ⟨fun | 144 => 84 | 143 => 83 | 219 => 94 | 217 => 92 | 225 => 78 | 224 => 77 | 267 => 102 | 266 => 101 | 314 => 112 | n => n, fun | 9 => 9 | 4 => 4 | 3 => 3 | 5 => 5 | 46 => 39 | 146 => 163 | 51 => 90 | n => n, fun | 1 => 2 | n => n⟩
theorem YtffcapkjfmkkaaaGreatDoor.lays144 : Go.Proofs.Lays.n144 Tryz.prog YtffcapkjfmkkaaaGreatDoor.lays144_ren := {
  mixed := by kernel_rfl
  f143 := Tryz.func83.trans (congrArg some (by kernel_rfl))
  f144 := Tryz.func84.trans (congrArg some (by kernel_rfl))
  f217 := Tryz.func92.trans (congrArg some (by kernel_rfl))
  f219 := Tryz.func94.trans (congrArg some (by kernel_rfl))
  f224 := Tryz.func77.trans (congrArg some (by kernel_rfl))
  f225 := Tryz.func78.trans (congrArg some (by kernel_rfl))
  f266 := Tryz.func101.trans (congrArg some (by kernel_rfl))
  f267 := Tryz.func102.trans (congrArg some (by kernel_rfl))
  f314 := Tryz.func112.trans (congrArg some (by kernel_rfl))
  t3 := Tryz.underlying3
  a3 := Tryz.isAgg3
  z3 := Tryz.sizeOf3
  v3 := Tryz.zeroValue3
  t4 := Tryz.underlying4
  a4 := Tryz.isAgg4
  z4 := Tryz.sizeOf4
  v4 := Tryz.zeroValue4
  t5 := Tryz.underlying5
  a5 := Tryz.isAgg5
  z5 := Tryz.sizeOf5
  v5 := Tryz.zeroValue5
  t9 := Tryz.underlying9
  a9 := Tryz.isAgg9
  z9 := Tryz.sizeOf9
  v9 := Tryz.zeroValue9
  t46 := Tryz.underlying39
  a46 := Tryz.isAgg39
  z46 := Tryz.sizeOf39
  v46 := Tryz.zeroValue39
  t51 := Tryz.underlying90
  a51 := Tryz.isAgg90
  z51 := Tryz.sizeOf90
  v51 := Tryz.zeroValue90
  t146 := Tryz.underlying163
  a146 := Tryz.isAgg163
  z146 := Tryz.sizeOf163
  v146 := Tryz.zeroValue163
  g1 := by kernel_rfl }
open Go.RowKit Go.Lib in
theorem YtffcapkjfmkkaaaGreatDoor.strings_Contains_one (s : ByteArray) (c : UInt8) (w : World) :
    Calls Tryz.prog 84 #[.string s, .string ⟨#[c]⟩] w fun e w' => e = .returned (.bool (decide (0 ≤ Lib.indexByte s.data.toList c))) ∧ w' = w := Any.strings_Contains_one YtffcapkjfmkkaaaGreatDoor.lays144 s c w
open Go.RowKit Go.Lib in
theorem YtffcapkjfmkkaaaGreatDoor.strings_Contains (s sub : ByteArray) (m : Int) (w : World) (hs : s.size < 4294967281) (hm : w.cell? ⟨2, 0, none⟩ = some (.int .i64 m)) :
    Calls Tryz.prog 84 #[.string s, .string sub] w fun e w' => e = .returned (.bool (Lib.contains s.data.toList sub.data.toList)) ∧ w' = w := Any.strings_Contains YtffcapkjfmkkaaaGreatDoor.lays144 s sub m w hs hm
def YtffcapkjfmkkaaaGreatDoor.lays220_ren : Go.Shelf.Ren := ⟨fun | 220 => 93 | 219 => 94 | 217 => 92 | 225 => 78 | 224 => 77 | 267 => 102 | 266 => 101 | 314 => 112 | n => n, fun | 9 => 9 | 4 => 4 | 3 => 3 | 5 => 5 | 46 => 39 | 146 => 163 | 51 => 90 | n => n, fun | 1 => 2 | n => n⟩
theorem YtffcapkjfmkkaaaGreatDoor.lays220 : Go.Proofs.Lays.n220 Tryz.prog YtffcapkjfmkkaaaGreatDoor.lays220_ren := {
  mixed := by kernel_rfl
  f217 := Tryz.func92.trans (congrArg some (by kernel_rfl))
  f219 := Tryz.func94.trans (congrArg some (by kernel_rfl))
  f220 := Tryz.func93.trans (congrArg some (by kernel_rfl))
  f224 := Tryz.func77.trans (congrArg some (by kernel_rfl))
  f225 := Tryz.func78.trans (congrArg some (by kernel_rfl))
  f266 := Tryz.func101.trans (congrArg some (by kernel_rfl))
  f267 := Tryz.func102.trans (congrArg some (by kernel_rfl))
  f314 := Tryz.func112.trans (congrArg some (by kernel_rfl))
  t3 := Tryz.underlying3
  a3 := Tryz.isAgg3
  z3 := Tryz.sizeOf3
  v3 := Tryz.zeroValue3
  t4 := Tryz.underlying4
  a4 := Tryz.isAgg4
  z4 := Tryz.sizeOf4
  v4 := Tryz.zeroValue4
  t5 := Tryz.underlying5
  a5 := Tryz.isAgg5
  z5 := Tryz.sizeOf5
  v5 := Tryz.zeroValue5
  t9 := Tryz.underlying9
  a9 := Tryz.isAgg9
  z9 := Tryz.sizeOf9
  v9 := Tryz.zeroValue9
  t46 := Tryz.underlying39
  a46 := Tryz.isAgg39
  z46 := Tryz.sizeOf39
  v46 := Tryz.zeroValue39
  t51 := Tryz.underlying90
  a51 := Tryz.isAgg90
  z51 := Tryz.sizeOf90
  v51 := Tryz.zeroValue90
  t146 := Tryz.underlying163
  a146 := Tryz.isAgg163
  z146 := Tryz.sizeOf163
  v146 := Tryz.zeroValue163
  g1 := by kernel_rfl }
open Go.RowKit Go.Lib in
theorem YtffcapkjfmkkaaaGreatDoor.stringslite_Cut (s sep : ByteArray) (m : Int) (w : World) (hs : s.size < 4294967281) (hm : w.cell? ⟨2, 0, none⟩ = some (.int .i64 m)) :
    Calls Tryz.prog 93 #[.string s, .string sep] w fun e w' => e = .returned (.tuple #[.string ⟨(Lib.cut s.data.toList sep.data.toList).1.toArray⟩, .string ⟨(Lib.cut s.data.toList sep.data.toList).2.1.toArray⟩, .bool (Lib.cut s.data.toList sep.data.toList).2.2]) ∧ ∃ n, w' = w.drewN n := Any.stringslite_Cut YtffcapkjfmkkaaaGreatDoor.lays220 s sep m w hs hm
def YtffcapkjfmkkaaaGreatDoor.lays145_ren : Go.Shelf.Ren := ⟨fun | 145 => 82 | 220 => 93 | 219 => 94 | 217 => 92 | 225 => 78 | 224 => 77 | 267 => 102 | 266 => 101 | 314 => 112 | n => n, fun | 9 => 9 | 4 => 4 | 59 => 117 | 3 => 3 | 5 => 5 | 46 => 39 | 146 => 163 | 51 => 90 | n => n, fun | 1 => 2 | n => n⟩
theorem YtffcapkjfmkkaaaGreatDoor.lays145 : Go.Proofs.Lays.n145 Tryz.prog YtffcapkjfmkkaaaGreatDoor.lays145_ren := {
  mixed := by kernel_rfl
  f145 := Tryz.func82.trans (congrArg some (by kernel_rfl))
  f217 := Tryz.func92.trans (congrArg some (by kernel_rfl))
  f219 := Tryz.func94.trans (congrArg some (by kernel_rfl))
  f220 := Tryz.func93.trans (congrArg some (by kernel_rfl))
  f224 := Tryz.func77.trans (congrArg some (by kernel_rfl))
  f225 := Tryz.func78.trans (congrArg some (by kernel_rfl))
  f266 := Tryz.func101.trans (congrArg some (by kernel_rfl))
  f267 := Tryz.func102.trans (congrArg some (by kernel_rfl))
  f314 := Tryz.func112.trans (congrArg some (by kernel_rfl))
  t3 := Tryz.underlying3
  a3 := Tryz.isAgg3
  z3 := Tryz.sizeOf3
  v3 := Tryz.zeroValue3
  t4 := Tryz.underlying4
  a4 := Tryz.isAgg4
  z4 := Tryz.sizeOf4
  v4 := Tryz.zeroValue4
  t5 := Tryz.underlying5
  a5 := Tryz.isAgg5
  z5 := Tryz.sizeOf5
  v5 := Tryz.zeroValue5
  t9 := Tryz.underlying9
  a9 := Tryz.isAgg9
  z9 := Tryz.sizeOf9
  v9 := Tryz.zeroValue9
  t46 := Tryz.underlying39
  a46 := Tryz.isAgg39
  z46 := Tryz.sizeOf39
  v46 := Tryz.zeroValue39
  t51 := Tryz.underlying90
  a51 := Tryz.isAgg90
  z51 := Tryz.sizeOf90
  v51 := Tryz.zeroValue90
  t59 := Tryz.underlying117
  a59 := Tryz.isAgg117
  z59 := Tryz.sizeOf117
  v59 := Tryz.zeroValue117
  t146 := Tryz.underlying163
  a146 := Tryz.isAgg163
  z146 := Tryz.sizeOf163
  v146 := Tryz.zeroValue163
  g1 := by kernel_rfl }
open Go.RowKit Go.Lib in
theorem YtffcapkjfmkkaaaGreatDoor.strings_Cut (s sep : ByteArray) (m : Int) (w : World) (hs : s.size < 4294967281) (hm : w.cell? ⟨2, 0, none⟩ = some (.int .i64 m)) :
    Calls Tryz.prog 82 #[.string s, .string sep] w fun e w' => e = .returned (.tuple #[.string ⟨(Lib.cut s.data.toList sep.data.toList).1.toArray⟩, .string ⟨(Lib.cut s.data.toList sep.data.toList).2.1.toArray⟩, .bool (Lib.cut s.data.toList sep.data.toList).2.2]) ∧ ∃ n, w' = w.drewN n := Any.strings_Cut YtffcapkjfmkkaaaGreatDoor.lays145 s sep m w hs hm
def YtffcapkjfmkkaaaGreatDoor.lays138_ren : Go.Shelf.Ren := ⟨fun | 138 => 150 | 195 => 151 | 218 => 152 | 143 => 83 | 219 => 94 | 217 => 92 | 225 => 78 | 224 => 77 | 267 => 102 | 266 => 101 | 314 => 112 | n => n, fun | 9 => 9 | 3 => 3 | 4 => 4 | 5 => 5 | 0 => 0 | 46 => 39 | 146 => 163 | 51 => 90 | n => n, fun | 1 => 2 | n => n⟩
theorem YtffcapkjfmkkaaaGreatDoor.lays138 : Go.Proofs.Lays.n138 Tryz.prog YtffcapkjfmkkaaaGreatDoor.lays138_ren := {
  mixed := by kernel_rfl
  f138 := Tryz.func150.trans (congrArg some (by kernel_rfl))
  f143 := Tryz.func83.trans (congrArg some (by kernel_rfl))
  f195 := Tryz.func151.trans (congrArg some (by kernel_rfl))
  f217 := Tryz.func92.trans (congrArg some (by kernel_rfl))
  f218 := Tryz.func152.trans (congrArg some (by kernel_rfl))
  f219 := Tryz.func94.trans (congrArg some (by kernel_rfl))
  f224 := Tryz.func77.trans (congrArg some (by kernel_rfl))
  f225 := Tryz.func78.trans (congrArg some (by kernel_rfl))
  f266 := Tryz.func101.trans (congrArg some (by kernel_rfl))
  f267 := Tryz.func102.trans (congrArg some (by kernel_rfl))
  f314 := Tryz.func112.trans (congrArg some (by kernel_rfl))
  t0 := Tryz.underlying0
  a0 := Tryz.isAgg0
  z0 := Tryz.sizeOf0
  v0 := Tryz.zeroValue0
  t3 := Tryz.underlying3
  a3 := Tryz.isAgg3
  z3 := Tryz.sizeOf3
  v3 := Tryz.zeroValue3
  t4 := Tryz.underlying4
  a4 := Tryz.isAgg4
  z4 := Tryz.sizeOf4
  v4 := Tryz.zeroValue4
  t5 := Tryz.underlying5
  a5 := Tryz.isAgg5
  z5 := Tryz.sizeOf5
  v5 := Tryz.zeroValue5
  t9 := Tryz.underlying9
  a9 := Tryz.isAgg9
  z9 := Tryz.sizeOf9
  v9 := Tryz.zeroValue9
  t46 := Tryz.underlying39
  a46 := Tryz.isAgg39
  z46 := Tryz.sizeOf39
  v46 := Tryz.zeroValue39
  t51 := Tryz.underlying90
  a51 := Tryz.isAgg90
  z51 := Tryz.sizeOf90
  v51 := Tryz.zeroValue90
  t146 := Tryz.underlying163
  a146 := Tryz.isAgg163
  z146 := Tryz.sizeOf163
  v146 := Tryz.zeroValue163
  g1 := by kernel_rfl }
open Go.RowKit Go.Lib in
theorem YtffcapkjfmkkaaaGreatDoor.strings_Count_one (s : ByteArray) (c : UInt8) (w : World) :
    Calls Tryz.prog 150 #[.string s, .string ⟨#[c]⟩] w fun e w' => e = .returned (.int .i64 (Lib.countByte s.data.toList c)) ∧ w' = w := Any.strings_Count_one YtffcapkjfmkkaaaGreatDoor.lays138 s c w
open Go.RowKit Go.Lib in
theorem YtffcapkjfmkkaaaGreatDoor.strings_Count (s sub : ByteArray) (m : Int) (w : World) (hs : s.size < 4294967281) (hm : w.cell? ⟨2, 0, none⟩ = some (.int .i64 m)) (h2 : 2 ≤ sub.size) :
    Calls Tryz.prog 150 #[.string s, .string sub] w fun e w' => e = .returned (.int .i64 (Lib.countB s sub)) ∧ w' = w := Any.strings_Count YtffcapkjfmkkaaaGreatDoor.lays138 s sub m w hs hm h2
def YtffcapkjfmkkaaaGreatDoor.laysM219_ren : Go.Shelf.Ren := ⟨fun | 219 => 94 | 217 => 92 | 225 => 78 | 224 => 77 | 267 => 102 | 266 => 101 | 314 => 112 | n => n, fun | 9 => 9 | 3 => 3 | 4 => 4 | 5 => 5 | 46 => 39 | 146 => 163 | 51 => 90 | n => n, fun | 1 => 2 | n => n⟩
theorem YtffcapkjfmkkaaaGreatDoor.laysM219 : Go.Proofs.LaysM.n219 Tryz.prog YtffcapkjfmkkaaaGreatDoor.laysM219_ren := {
  mixed := by kernel_rfl
  f217 := Tryz.func92.trans (congrArg some (by kernel_rfl))
  f219 := Tryz.func94.trans (congrArg some (by kernel_rfl))
  f224 := Tryz.func77.trans (congrArg some (by kernel_rfl))
  f225 := Tryz.func78.trans (congrArg some (by kernel_rfl))
  f266 := Tryz.func101.trans (congrArg some (by kernel_rfl))
  f267 := Tryz.func102.trans (congrArg some (by kernel_rfl))
  f314 := Tryz.func112.trans (congrArg some (by kernel_rfl))
  t3 := Tryz.underlying3
  a3 := Tryz.isAgg3
  z3 := Tryz.sizeOf3
  v3 := Tryz.zeroValue3
  t4 := Tryz.underlying4
  a4 := Tryz.isAgg4
  z4 := Tryz.sizeOf4
  v4 := Tryz.zeroValue4
  t5 := Tryz.underlying5
  a5 := Tryz.isAgg5
  z5 := Tryz.sizeOf5
  v5 := Tryz.zeroValue5
  t9 := Tryz.underlying9
  a9 := Tryz.isAgg9
  z9 := Tryz.sizeOf9
  v9 := Tryz.zeroValue9
  t46 := Tryz.underlying39
  a46 := Tryz.isAgg39
  z46 := Tryz.sizeOf39
  v46 := Tryz.zeroValue39
  t51 := Tryz.underlying90
  a51 := Tryz.isAgg90
  z51 := Tryz.sizeOf90
  v51 := Tryz.zeroValue90
  t146 := Tryz.underlying163
  a146 := Tryz.isAgg163
  z146 := Tryz.sizeOf163
  v146 := Tryz.zeroValue163
  g1 := by kernel_rfl
  i3 := by kernel_rfl
  i4 := by kernel_rfl
  i5 := by kernel_rfl
  i9 := by kernel_rfl
  i46 := by kernel_rfl
  i51 := by kernel_rfl
  i146 := by kernel_rfl
  m1 := by kernel_rfl
  s1_3 := fun w h => Go.Proofs.cell_of_shapedOpen_int (zero := #[.int .i64 0]) (t := 3) h (of_decide_eq_true (by kernel_rfl)) (by kernel_rfl) rfl (by kernel_rfl) (by kernel_rfl) Tryz.underlying3 }
open Go.RowKit Go.Lib in
theorem YtffcapkjfmkkaaaGreatDoor.stringslite_Index_shaped (s sub : ByteArray) (w : World) (h : w.ShapedOpen Tryz.prog) (hs : s.size < 4294967281) :
    Calls Tryz.prog 94 #[.string s, .string sub] w fun e w' => e = .returned (.int .i64 (Lib.index s.data.toList sub.data.toList)) ∧ w' = w := Any.stringslite_Index_shaped YtffcapkjfmkkaaaGreatDoor.laysM219 s sub w h hs
def YtffcapkjfmkkaaaGreatDoor.laysM143_ren : Go.Shelf.Ren := ⟨fun | 143 => 83 | 219 => 94 | 217 => 92 | 225 => 78 | 224 => 77 | 267 => 102 | 266 => 101 | 314 => 112 | n => n, fun | 9 => 9 | 3 => 3 | 4 => 4 | 5 => 5 | 46 => 39 | 146 => 163 | 51 => 90 | n => n, fun | 1 => 2 | n => n⟩
theorem YtffcapkjfmkkaaaGreatDoor.laysM143 : Go.Proofs.LaysM.n143 Tryz.prog YtffcapkjfmkkaaaGreatDoor.laysM143_ren := {
  mixed := by kernel_rfl
  f143 := Tryz.func83.trans (congrArg some (by kernel_rfl))
  f217 := Tryz.func92.trans (congrArg some (by kernel_rfl))
  f219 := Tryz.func94.trans (congrArg some (by kernel_rfl))
  f224 := Tryz.func77.trans (congrArg some (by kernel_rfl))
  f225 := Tryz.func78.trans (congrArg some (by kernel_rfl))
  f266 := Tryz.func101.trans (congrArg some (by kernel_rfl))
  f267 := Tryz.func102.trans (congrArg some (by kernel_rfl))
  f314 := Tryz.func112.trans (congrArg some (by kernel_rfl))
  t3 := Tryz.underlying3
  a3 := Tryz.isAgg3
  z3 := Tryz.sizeOf3
  v3 := Tryz.zeroValue3
  t4 := Tryz.underlying4
  a4 := Tryz.isAgg4
  z4 := Tryz.sizeOf4
  v4 := Tryz.zeroValue4
  t5 := Tryz.underlying5
  a5 := Tryz.isAgg5
  z5 := Tryz.sizeOf5
  v5 := Tryz.zeroValue5
  t9 := Tryz.underlying9
  a9 := Tryz.isAgg9
  z9 := Tryz.sizeOf9
  v9 := Tryz.zeroValue9
  t46 := Tryz.underlying39
  a46 := Tryz.isAgg39
  z46 := Tryz.sizeOf39
  v46 := Tryz.zeroValue39
  t51 := Tryz.underlying90
  a51 := Tryz.isAgg90
  z51 := Tryz.sizeOf90
  v51 := Tryz.zeroValue90
  t146 := Tryz.underlying163
  a146 := Tryz.isAgg163
  z146 := Tryz.sizeOf163
  v146 := Tryz.zeroValue163
  g1 := by kernel_rfl
  i3 := by kernel_rfl
  i4 := by kernel_rfl
  i5 := by kernel_rfl
  i9 := by kernel_rfl
  i46 := by kernel_rfl
  i51 := by kernel_rfl
  i146 := by kernel_rfl
  m1 := by kernel_rfl
  s1_3 := fun w h => Go.Proofs.cell_of_shapedOpen_int (zero := #[.int .i64 0]) (t := 3) h (of_decide_eq_true (by kernel_rfl)) (by kernel_rfl) rfl (by kernel_rfl) (by kernel_rfl) Tryz.underlying3 }
open Go.RowKit Go.Lib in
theorem YtffcapkjfmkkaaaGreatDoor.strings_Index_shaped (s sub : ByteArray) (w : World) (h : w.ShapedOpen Tryz.prog) (hs : s.size < 4294967281) :
    Calls Tryz.prog 83 #[.string s, .string sub] w fun e w' => e = .returned (.int .i64 (Lib.index s.data.toList sub.data.toList)) ∧ w' = w := Any.strings_Index_shaped YtffcapkjfmkkaaaGreatDoor.laysM143 s sub w h hs
def YtffcapkjfmkkaaaGreatDoor.laysM144_ren : Go.Shelf.Ren := ⟨fun | 144 => 84 | 143 => 83 | 219 => 94 | 217 => 92 | 225 => 78 | 224 => 77 | 267 => 102 | 266 => 101 | 314 => 112 | n => n, fun | 9 => 9 | 4 => 4 | 3 => 3 | 5 => 5 | 46 => 39 | 146 => 163 | 51 => 90 | n => n, fun | 1 => 2 | n => n⟩
theorem YtffcapkjfmkkaaaGreatDoor.laysM144 : Go.Proofs.LaysM.n144 Tryz.prog YtffcapkjfmkkaaaGreatDoor.laysM144_ren := {
  mixed := by kernel_rfl
  f143 := Tryz.func83.trans (congrArg some (by kernel_rfl))
  f144 := Tryz.func84.trans (congrArg some (by kernel_rfl))
  f217 := Tryz.func92.trans (congrArg some (by kernel_rfl))
  f219 := Tryz.func94.trans (congrArg some (by kernel_rfl))
  f224 := Tryz.func77.trans (congrArg some (by kernel_rfl))
  f225 := Tryz.func78.trans (congrArg some (by kernel_rfl))
  f266 := Tryz.func101.trans (congrArg some (by kernel_rfl))
  f267 := Tryz.func102.trans (congrArg some (by kernel_rfl))
  f314 := Tryz.func112.trans (congrArg some (by kernel_rfl))
  t3 := Tryz.underlying3
  a3 := Tryz.isAgg3
  z3 := Tryz.sizeOf3
  v3 := Tryz.zeroValue3
  t4 := Tryz.underlying4
  a4 := Tryz.isAgg4
  z4 := Tryz.sizeOf4
  v4 := Tryz.zeroValue4
  t5 := Tryz.underlying5
  a5 := Tryz.isAgg5
  z5 := Tryz.sizeOf5
  v5 := Tryz.zeroValue5
  t9 := Tryz.underlying9
  a9 := Tryz.isAgg9
  z9 := Tryz.sizeOf9
  v9 := Tryz.zeroValue9
  t46 := Tryz.underlying39
  a46 := Tryz.isAgg39
  z46 := Tryz.sizeOf39
  v46 := Tryz.zeroValue39
  t51 := Tryz.underlying90
  a51 := Tryz.isAgg90
  z51 := Tryz.sizeOf90
  v51 := Tryz.zeroValue90
  t146 := Tryz.underlying163
  a146 := Tryz.isAgg163
  z146 := Tryz.sizeOf163
  v146 := Tryz.zeroValue163
  g1 := by kernel_rfl
  i3 := by kernel_rfl
  i4 := by kernel_rfl
  i5 := by kernel_rfl
  i9 := by kernel_rfl
  i46 := by kernel_rfl
  i51 := by kernel_rfl
  i146 := by kernel_rfl
  m1 := by kernel_rfl
  s1_3 := fun w h => Go.Proofs.cell_of_shapedOpen_int (zero := #[.int .i64 0]) (t := 3) h (of_decide_eq_true (by kernel_rfl)) (by kernel_rfl) rfl (by kernel_rfl) (by kernel_rfl) Tryz.underlying3 }
open Go.RowKit Go.Lib in
theorem YtffcapkjfmkkaaaGreatDoor.strings_Contains_shaped (s sub : ByteArray) (w : World) (h : w.ShapedOpen Tryz.prog) (hs : s.size < 4294967281) :
    Calls Tryz.prog 84 #[.string s, .string sub] w fun e w' => e = .returned (.bool (Lib.contains s.data.toList sub.data.toList)) ∧ w' = w := Any.strings_Contains_shaped YtffcapkjfmkkaaaGreatDoor.laysM144 s sub w h hs
def YtffcapkjfmkkaaaGreatDoor.laysM220_ren : Go.Shelf.Ren := ⟨fun | 220 => 93 | 219 => 94 | 217 => 92 | 225 => 78 | 224 => 77 | 267 => 102 | 266 => 101 | 314 => 112 | n => n, fun | 9 => 9 | 4 => 4 | 3 => 3 | 5 => 5 | 46 => 39 | 146 => 163 | 51 => 90 | n => n, fun | 1 => 2 | n => n⟩
theorem YtffcapkjfmkkaaaGreatDoor.laysM220 : Go.Proofs.LaysM.n220 Tryz.prog YtffcapkjfmkkaaaGreatDoor.laysM220_ren := {
  mixed := by kernel_rfl
  f217 := Tryz.func92.trans (congrArg some (by kernel_rfl))
  f219 := Tryz.func94.trans (congrArg some (by kernel_rfl))
  f220 := Tryz.func93.trans (congrArg some (by kernel_rfl))
  f224 := Tryz.func77.trans (congrArg some (by kernel_rfl))
  f225 := Tryz.func78.trans (congrArg some (by kernel_rfl))
  f266 := Tryz.func101.trans (congrArg some (by kernel_rfl))
  f267 := Tryz.func102.trans (congrArg some (by kernel_rfl))
  f314 := Tryz.func112.trans (congrArg some (by kernel_rfl))
  t3 := Tryz.underlying3
  a3 := Tryz.isAgg3
  z3 := Tryz.sizeOf3
  v3 := Tryz.zeroValue3
  t4 := Tryz.underlying4
  a4 := Tryz.isAgg4
  z4 := Tryz.sizeOf4
  v4 := Tryz.zeroValue4
  t5 := Tryz.underlying5
  a5 := Tryz.isAgg5
  z5 := Tryz.sizeOf5
  v5 := Tryz.zeroValue5
  t9 := Tryz.underlying9
  a9 := Tryz.isAgg9
  z9 := Tryz.sizeOf9
  v9 := Tryz.zeroValue9
  t46 := Tryz.underlying39
  a46 := Tryz.isAgg39
  z46 := Tryz.sizeOf39
  v46 := Tryz.zeroValue39
  t51 := Tryz.underlying90
  a51 := Tryz.isAgg90
  z51 := Tryz.sizeOf90
  v51 := Tryz.zeroValue90
  t146 := Tryz.underlying163
  a146 := Tryz.isAgg163
  z146 := Tryz.sizeOf163
  v146 := Tryz.zeroValue163
  g1 := by kernel_rfl
  i3 := by kernel_rfl
  i4 := by kernel_rfl
  i5 := by kernel_rfl
  i9 := by kernel_rfl
  i46 := by kernel_rfl
  i51 := by kernel_rfl
  i146 := by kernel_rfl
  m1 := by kernel_rfl
  s1_3 := fun w h => Go.Proofs.cell_of_shapedOpen_int (zero := #[.int .i64 0]) (t := 3) h (of_decide_eq_true (by kernel_rfl)) (by kernel_rfl) rfl (by kernel_rfl) (by kernel_rfl) Tryz.underlying3 }
open Go.RowKit Go.Lib in
theorem YtffcapkjfmkkaaaGreatDoor.stringslite_Cut_shaped (s sep : ByteArray) (w : World) (h : w.ShapedOpen Tryz.prog) (hs : s.size < 4294967281) :
    Calls Tryz.prog 93 #[.string s, .string sep] w fun e w' => e = .returned (.tuple #[.string ⟨(Lib.cut s.data.toList sep.data.toList).1.toArray⟩, .string ⟨(Lib.cut s.data.toList sep.data.toList).2.1.toArray⟩, .bool (Lib.cut s.data.toList sep.data.toList).2.2]) ∧ ∃ n, w' = w.drewN n := Any.stringslite_Cut_shaped YtffcapkjfmkkaaaGreatDoor.laysM220 s sep w h hs
def YtffcapkjfmkkaaaGreatDoor.laysM145_ren : Go.Shelf.Ren := ⟨fun | 145 => 82 | 220 => 93 | 219 => 94 | 217 => 92 | 225 => 78 | 224 => 77 | 267 => 102 | 266 => 101 | 314 => 112 | n => n, fun | 9 => 9 | 4 => 4 | 59 => 117 | 3 => 3 | 5 => 5 | 46 => 39 | 146 => 163 | 51 => 90 | n => n, fun | 1 => 2 | n => n⟩
theorem YtffcapkjfmkkaaaGreatDoor.laysM145 : Go.Proofs.LaysM.n145 Tryz.prog YtffcapkjfmkkaaaGreatDoor.laysM145_ren := {
  mixed := by kernel_rfl
  f145 := Tryz.func82.trans (congrArg some (by kernel_rfl))
  f217 := Tryz.func92.trans (congrArg some (by kernel_rfl))
  f219 := Tryz.func94.trans (congrArg some (by kernel_rfl))
  f220 := Tryz.func93.trans (congrArg some (by kernel_rfl))
  f224 := Tryz.func77.trans (congrArg some (by kernel_rfl))
  f225 := Tryz.func78.trans (congrArg some (by kernel_rfl))
  f266 := Tryz.func101.trans (congrArg some (by kernel_rfl))
  f267 := Tryz.func102.trans (congrArg some (by kernel_rfl))
  f314 := Tryz.func112.trans (congrArg some (by kernel_rfl))
  t3 := Tryz.underlying3
  a3 := Tryz.isAgg3
  z3 := Tryz.sizeOf3
  v3 := Tryz.zeroValue3
  t4 := Tryz.underlying4
  a4 := Tryz.isAgg4
  z4 := Tryz.sizeOf4
  v4 := Tryz.zeroValue4
  t5 := Tryz.underlying5
  a5 := Tryz.isAgg5
  z5 := Tryz.sizeOf5
  v5 := Tryz.zeroValue5
  t9 := Tryz.underlying9
  a9 := Tryz.isAgg9
  z9 := Tryz.sizeOf9
  v9 := Tryz.zeroValue9
  t46 := Tryz.underlying39
  a46 := Tryz.isAgg39
  z46 := Tryz.sizeOf39
  v46 := Tryz.zeroValue39
  t51 := Tryz.underlying90
  a51 := Tryz.isAgg90
  z51 := Tryz.sizeOf90
  v51 := Tryz.zeroValue90
  t59 := Tryz.underlying117
  a59 := Tryz.isAgg117
  z59 := Tryz.sizeOf117
  v59 := Tryz.zeroValue117
  t146 := Tryz.underlying163
  a146 := Tryz.isAgg163
  z146 := Tryz.sizeOf163
  v146 := Tryz.zeroValue163
  g1 := by kernel_rfl
  i3 := by kernel_rfl
  i4 := by kernel_rfl
  i5 := by kernel_rfl
  i9 := by kernel_rfl
  i46 := by kernel_rfl
  i51 := by kernel_rfl
  i59 := by kernel_rfl
  i146 := by kernel_rfl
  m1 := by kernel_rfl
  s1_3 := fun w h => Go.Proofs.cell_of_shapedOpen_int (zero := #[.int .i64 0]) (t := 3) h (of_decide_eq_true (by kernel_rfl)) (by kernel_rfl) rfl (by kernel_rfl) (by kernel_rfl) Tryz.underlying3 }
open Go.RowKit Go.Lib in
theorem YtffcapkjfmkkaaaGreatDoor.strings_Cut_shaped (s sep : ByteArray) (w : World) (h : w.ShapedOpen Tryz.prog) (hs : s.size < 4294967281) :
    Calls Tryz.prog 82 #[.string s, .string sep] w fun e w' => e = .returned (.tuple #[.string ⟨(Lib.cut s.data.toList sep.data.toList).1.toArray⟩, .string ⟨(Lib.cut s.data.toList sep.data.toList).2.1.toArray⟩, .bool (Lib.cut s.data.toList sep.data.toList).2.2]) ∧ ∃ n, w' = w.drewN n := Any.strings_Cut_shaped YtffcapkjfmkkaaaGreatDoor.laysM145 s sep w h hs
def YtffcapkjfmkkaaaGreatDoor.laysM138_ren : Go.Shelf.Ren := ⟨fun | 138 => 150 | 195 => 151 | 218 => 152 | 143 => 83 | 219 => 94 | 217 => 92 | 225 => 78 | 224 => 77 | 267 => 102 | 266 => 101 | 314 => 112 | n => n, fun | 9 => 9 | 3 => 3 | 4 => 4 | 5 => 5 | 0 => 0 | 46 => 39 | 146 => 163 | 51 => 90 | n => n, fun | 1 => 2 | n => n⟩
theorem YtffcapkjfmkkaaaGreatDoor.laysM138 : Go.Proofs.LaysM.n138 Tryz.prog YtffcapkjfmkkaaaGreatDoor.laysM138_ren := {
  mixed := by kernel_rfl
  f138 := Tryz.func150.trans (congrArg some (by kernel_rfl))
  f143 := Tryz.func83.trans (congrArg some (by kernel_rfl))
  f195 := Tryz.func151.trans (congrArg some (by kernel_rfl))
  f217 := Tryz.func92.trans (congrArg some (by kernel_rfl))
  f218 := Tryz.func152.trans (congrArg some (by kernel_rfl))
  f219 := Tryz.func94.trans (congrArg some (by kernel_rfl))
  f224 := Tryz.func77.trans (congrArg some (by kernel_rfl))
  f225 := Tryz.func78.trans (congrArg some (by kernel_rfl))
  f266 := Tryz.func101.trans (congrArg some (by kernel_rfl))
  f267 := Tryz.func102.trans (congrArg some (by kernel_rfl))
  f314 := Tryz.func112.trans (congrArg some (by kernel_rfl))
  t0 := Tryz.underlying0
  a0 := Tryz.isAgg0
  z0 := Tryz.sizeOf0
  v0 := Tryz.zeroValue0
  t3 := Tryz.underlying3
  a3 := Tryz.isAgg3
  z3 := Tryz.sizeOf3
  v3 := Tryz.zeroValue3
  t4 := Tryz.underlying4
  a4 := Tryz.isAgg4
  z4 := Tryz.sizeOf4
  v4 := Tryz.zeroValue4
  t5 := Tryz.underlying5
  a5 := Tryz.isAgg5
  z5 := Tryz.sizeOf5
  v5 := Tryz.zeroValue5
  t9 := Tryz.underlying9
  a9 := Tryz.isAgg9
  z9 := Tryz.sizeOf9
  v9 := Tryz.zeroValue9
  t46 := Tryz.underlying39
  a46 := Tryz.isAgg39
  z46 := Tryz.sizeOf39
  v46 := Tryz.zeroValue39
  t51 := Tryz.underlying90
  a51 := Tryz.isAgg90
  z51 := Tryz.sizeOf90
  v51 := Tryz.zeroValue90
  t146 := Tryz.underlying163
  a146 := Tryz.isAgg163
  z146 := Tryz.sizeOf163
  v146 := Tryz.zeroValue163
  g1 := by kernel_rfl
  i0 := by kernel_rfl
  i3 := by kernel_rfl
  i4 := by kernel_rfl
  i5 := by kernel_rfl
  i9 := by kernel_rfl
  i46 := by kernel_rfl
  i51 := by kernel_rfl
  i146 := by kernel_rfl
  m1 := by kernel_rfl
  s1_3 := fun w h => Go.Proofs.cell_of_shapedOpen_int (zero := #[.int .i64 0]) (t := 3) h (of_decide_eq_true (by kernel_rfl)) (by kernel_rfl) rfl (by kernel_rfl) (by kernel_rfl) Tryz.underlying3 }
open Go.RowKit Go.Lib in
theorem YtffcapkjfmkkaaaGreatDoor.strings_Count_shaped (s sub : ByteArray) (w : World) (h : w.ShapedOpen Tryz.prog) (hs : s.size < 4294967281) (h2 : 2 ≤ sub.size) :
    Calls Tryz.prog 150 #[.string s, .string sub] w fun e w' => e = .returned (.int .i64 (Lib.countB s sub)) ∧ w' = w := Any.strings_Count_shaped YtffcapkjfmkkaaaGreatDoor.laysM138 s sub w h hs h2
def YtffcapkjfmkkaaaGreatDoor.lays206_ren : Go.Shelf.Ren := ⟨fun | 206 => 80 | n => n, fun | 9 => 9 | 4 => 4 | 3 => 3 | n => n, fun | n => n⟩
theorem YtffcapkjfmkkaaaGreatDoor.lays206 : Go.Proofs.Lays.n206 Tryz.prog YtffcapkjfmkkaaaGreatDoor.lays206_ren := {
  mixed := by kernel_rfl
  f206 := Tryz.func80.trans (congrArg some (by kernel_rfl))
  t3 := Tryz.underlying3
  a3 := Tryz.isAgg3
  z3 := Tryz.sizeOf3
  v3 := Tryz.zeroValue3
  t4 := Tryz.underlying4
  a4 := Tryz.isAgg4
  z4 := Tryz.sizeOf4
  v4 := Tryz.zeroValue4
  t9 := Tryz.underlying9
  a9 := Tryz.isAgg9
  z9 := Tryz.sizeOf9
  v9 := Tryz.zeroValue9 }
open Go.RowKit Go.Lib in
theorem YtffcapkjfmkkaaaGreatDoor.stringslite_HasPrefix (s p : ByteArray) (w : World) :
    Calls Tryz.prog 80 #[.string s, .string p] w fun e w' => e = .returned (.bool (Lib.hasPrefix s.data.toList p.data.toList)) ∧ w' = w := Any.stringslite_HasPrefix YtffcapkjfmkkaaaGreatDoor.lays206 s p w
def YtffcapkjfmkkaaaGreatDoor.lays99_ren : Go.Shelf.Ren := ⟨fun | 99 => 67 | 206 => 80 | n => n, fun | 9 => 9 | 4 => 4 | 3 => 3 | n => n, fun | n => n⟩
theorem YtffcapkjfmkkaaaGreatDoor.lays99 : Go.Proofs.Lays.n99 Tryz.prog YtffcapkjfmkkaaaGreatDoor.lays99_ren := {
  mixed := by kernel_rfl
  f99 := Tryz.func67.trans (congrArg some (by kernel_rfl))
  f206 := Tryz.func80.trans (congrArg some (by kernel_rfl))
  t3 := Tryz.underlying3
  a3 := Tryz.isAgg3
  z3 := Tryz.sizeOf3
  v3 := Tryz.zeroValue3
  t4 := Tryz.underlying4
  a4 := Tryz.isAgg4
  z4 := Tryz.sizeOf4
  v4 := Tryz.zeroValue4
  t9 := Tryz.underlying9
  a9 := Tryz.isAgg9
  z9 := Tryz.sizeOf9
  v9 := Tryz.zeroValue9 }
open Go.RowKit Go.Lib in
theorem YtffcapkjfmkkaaaGreatDoor.strings_HasPrefix (s p : ByteArray) (w : World) :
    Calls Tryz.prog 67 #[.string s, .string p] w fun e w' => e = .returned (.bool (Lib.hasPrefix s.data.toList p.data.toList)) ∧ w' = w := Any.strings_HasPrefix YtffcapkjfmkkaaaGreatDoor.lays99 s p w
def YtffcapkjfmkkaaaGreatDoor.lays152_ren : Go.Shelf.Ren := ⟨fun | 152 => 61 | 137 => 75 | 119 => 76 | 224 => 77 | 225 => 78 | 217 => 92 | 266 => 101 | n => n, fun | 9 => 9 | 21 => 21 | 3 => 3 | 4 => 4 | 5 => 5 | 0 => 0 | 46 => 39 | n => n, fun | n => n⟩
theorem YtffcapkjfmkkaaaGreatDoor.lays152 : Go.Proofs.Lays.n152 Tryz.prog YtffcapkjfmkkaaaGreatDoor.lays152_ren := {
  mixed := by kernel_rfl
  f119 := Tryz.func76.trans (congrArg some (by kernel_rfl))
  f137 := Tryz.func75.trans (congrArg some (by kernel_rfl))
  f152 := Tryz.func61.trans (congrArg some (by kernel_rfl))
  f217 := Tryz.func92.trans (congrArg some (by kernel_rfl))
  f224 := Tryz.func77.trans (congrArg some (by kernel_rfl))
  f225 := Tryz.func78.trans (congrArg some (by kernel_rfl))
  f266 := Tryz.func101.trans (congrArg some (by kernel_rfl))
  t0 := Tryz.underlying0
  a0 := Tryz.isAgg0
  z0 := Tryz.sizeOf0
  v0 := Tryz.zeroValue0
  t3 := Tryz.underlying3
  a3 := Tryz.isAgg3
  z3 := Tryz.sizeOf3
  v3 := Tryz.zeroValue3
  t4 := Tryz.underlying4
  a4 := Tryz.isAgg4
  z4 := Tryz.sizeOf4
  v4 := Tryz.zeroValue4
  t5 := Tryz.underlying5
  a5 := Tryz.isAgg5
  z5 := Tryz.sizeOf5
  v5 := Tryz.zeroValue5
  t9 := Tryz.underlying9
  a9 := Tryz.isAgg9
  z9 := Tryz.sizeOf9
  v9 := Tryz.zeroValue9
  t21 := Tryz.underlying21
  a21 := Tryz.isAgg21
  z21 := Tryz.sizeOf21
  v21 := Tryz.zeroValue21
  t46 := Tryz.underlying39
  a46 := Tryz.isAgg39
  z46 := Tryz.sizeOf39
  v46 := Tryz.zeroValue39 }
open Go.RowKit Go.Lib in
theorem YtffcapkjfmkkaaaGreatDoor.strings_IndexRune_ascii (s : ByteArray) (r : Int) (w : World) (h0 : 0 ≤ r) (h1 : r < 128) :
    Calls Tryz.prog 61 #[.string s, .int .i32 r] w fun e w' => e = .returned (.int .i64 (Lib.indexByte s.data.toList r.toNat.toUInt8)) ∧ w' = w := Any.strings_IndexRune_ascii YtffcapkjfmkkaaaGreatDoor.lays152 s r w h0 h1
def YtffcapkjfmkkaaaGreatDoor.lays151_ren : Go.Shelf.Ren := ⟨fun | 151 => 59 | 152 => 61 | 137 => 75 | 119 => 76 | 224 => 77 | 225 => 78 | 217 => 92 | 266 => 101 | n => n, fun | 9 => 9 | 21 => 21 | 4 => 4 | 3 => 3 | 5 => 5 | 0 => 0 | 46 => 39 | n => n, fun | n => n⟩
theorem YtffcapkjfmkkaaaGreatDoor.lays151 : Go.Proofs.Lays.n151 Tryz.prog YtffcapkjfmkkaaaGreatDoor.lays151_ren := {
  mixed := by kernel_rfl
  f119 := Tryz.func76.trans (congrArg some (by kernel_rfl))
  f137 := Tryz.func75.trans (congrArg some (by kernel_rfl))
  f151 := Tryz.func59.trans (congrArg some (by kernel_rfl))
  f152 := Tryz.func61.trans (congrArg some (by kernel_rfl))
  f217 := Tryz.func92.trans (congrArg some (by kernel_rfl))
  f224 := Tryz.func77.trans (congrArg some (by kernel_rfl))
  f225 := Tryz.func78.trans (congrArg some (by kernel_rfl))
  f266 := Tryz.func101.trans (congrArg some (by kernel_rfl))
  t0 := Tryz.underlying0
  a0 := Tryz.isAgg0
  z0 := Tryz.sizeOf0
  v0 := Tryz.zeroValue0
  t3 := Tryz.underlying3
  a3 := Tryz.isAgg3
  z3 := Tryz.sizeOf3
  v3 := Tryz.zeroValue3
  t4 := Tryz.underlying4
  a4 := Tryz.isAgg4
  z4 := Tryz.sizeOf4
  v4 := Tryz.zeroValue4
  t5 := Tryz.underlying5
  a5 := Tryz.isAgg5
  z5 := Tryz.sizeOf5
  v5 := Tryz.zeroValue5
  t9 := Tryz.underlying9
  a9 := Tryz.isAgg9
  z9 := Tryz.sizeOf9
  v9 := Tryz.zeroValue9
  t21 := Tryz.underlying21
  a21 := Tryz.isAgg21
  z21 := Tryz.sizeOf21
  v21 := Tryz.zeroValue21
  t46 := Tryz.underlying39
  a46 := Tryz.isAgg39
  z46 := Tryz.sizeOf39
  v46 := Tryz.zeroValue39 }
open Go.RowKit Go.Lib in
theorem YtffcapkjfmkkaaaGreatDoor.strings_ContainsRune_ascii (s : ByteArray) (r : Int) (w : World) (h0 : 0 ≤ r) (h1 : r < 128) :
    Calls Tryz.prog 59 #[.string s, .int .i32 r] w fun e w' => e = .returned (.bool (decide (0 ≤ Lib.indexByte s.data.toList r.toNat.toUInt8))) ∧ w' = w := Any.strings_ContainsRune_ascii YtffcapkjfmkkaaaGreatDoor.lays151 s r w h0 h1
def YtffcapkjfmkkaaaGreatDoor.lays226_ren : Go.Shelf.Ren := ⟨fun | 226 => 62 | n => n, fun | 3 => 3 | 4 => 4 | n => n, fun | n => n⟩
theorem YtffcapkjfmkkaaaGreatDoor.lays226 : Go.Proofs.Lays.n226 Tryz.prog YtffcapkjfmkkaaaGreatDoor.lays226_ren := {
  mixed := by kernel_rfl
  f226 := Tryz.func62.trans (congrArg some (by kernel_rfl))
  t3 := Tryz.underlying3
  a3 := Tryz.isAgg3
  z3 := Tryz.sizeOf3
  v3 := Tryz.zeroValue3
  t4 := Tryz.underlying4
  a4 := Tryz.isAgg4
  z4 := Tryz.sizeOf4
  v4 := Tryz.zeroValue4 }
open Go.RowKit Go.Lib in
theorem YtffcapkjfmkkaaaGreatDoor.strings_shouldUseASCIISet (n : Int) (w : World) :
    Calls Tryz.prog 62 #[.int .i64 n] w fun e w' => e = .returned (.bool (decide (8 < n))) ∧ w' = w := Any.strings_shouldUseASCIISet YtffcapkjfmkkaaaGreatDoor.lays226 n w
def YtffcapkjfmkkaaaGreatDoor.lays153_ren : Go.Shelf.Ren := ⟨fun | 153 => 46 | 152 => 61 | 226 => 62 | 227 => 41 | 228 => 57 | 137 => 75 | 119 => 76 | 224 => 77 | 225 => 78 | 217 => 92 | 266 => 101 | n => n, fun | 9 => 9 | 3 => 3 | 4 => 4 | 5 => 5 | 21 => 21 | 117 => 74 | 116 => 73 | 0 => 0 | 46 => 39 | 124 => 77 | n => n, fun | n => n⟩
theorem YtffcapkjfmkkaaaGreatDoor.lays153 : Go.Proofs.Lays.n153 Tryz.prog YtffcapkjfmkkaaaGreatDoor.lays153_ren := {
  mixed := by kernel_rfl
  f119 := Tryz.func76.trans (congrArg some (by kernel_rfl))
  f137 := Tryz.func75.trans (congrArg some (by kernel_rfl))
  f152 := Tryz.func61.trans (congrArg some (by kernel_rfl))
  f153 := Tryz.func46.trans (congrArg some (by kernel_rfl))
  f217 := Tryz.func92.trans (congrArg some (by kernel_rfl))
  f224 := Tryz.func77.trans (congrArg some (by kernel_rfl))
  f225 := Tryz.func78.trans (congrArg some (by kernel_rfl))
  f226 := Tryz.func62.trans (congrArg some (by kernel_rfl))
  f227 := Tryz.func41.trans (congrArg some (by kernel_rfl))
  f228 := Tryz.func57.trans (congrArg some (by kernel_rfl))
  f266 := Tryz.func101.trans (congrArg some (by kernel_rfl))
  t0 := Tryz.underlying0
  a0 := Tryz.isAgg0
  z0 := Tryz.sizeOf0
  v0 := Tryz.zeroValue0
  t3 := Tryz.underlying3
  a3 := Tryz.isAgg3
  z3 := Tryz.sizeOf3
  v3 := Tryz.zeroValue3
  t4 := Tryz.underlying4
  a4 := Tryz.isAgg4
  z4 := Tryz.sizeOf4
  v4 := Tryz.zeroValue4
  t5 := Tryz.underlying5
  a5 := Tryz.isAgg5
  z5 := Tryz.sizeOf5
  v5 := Tryz.zeroValue5
  t9 := Tryz.underlying9
  a9 := Tryz.isAgg9
  z9 := Tryz.sizeOf9
  v9 := Tryz.zeroValue9
  t21 := Tryz.underlying21
  a21 := Tryz.isAgg21
  z21 := Tryz.sizeOf21
  v21 := Tryz.zeroValue21
  t46 := Tryz.underlying39
  a46 := Tryz.isAgg39
  z46 := Tryz.sizeOf39
  v46 := Tryz.zeroValue39
  t116 := Tryz.underlying73
  a116 := Tryz.isAgg73
  z116 := Tryz.sizeOf73
  t117 := Tryz.underlying74
  a117 := Tryz.isAgg74
  z117 := Tryz.sizeOf74
  v117 := Tryz.zeroValue74
  t124 := Tryz.underlying77
  a124 := Tryz.isAgg77
  z124 := Tryz.sizeOf77
  v124 := Tryz.zeroValue77 }
open Go.RowKit Go.Lib in
theorem YtffcapkjfmkkaaaGreatDoor.strings_IndexAny_none (s chars : ByteArray) (w : World) (h0 : chars.size = 0) :
    Calls Tryz.prog 46 #[.string s, .string chars] w fun e w' => e = .returned (.int .i64 (Lib.indexAny s.data.toList chars.data.toList)) ∧ w' = w := Any.strings_IndexAny_none YtffcapkjfmkkaaaGreatDoor.lays153 s chars w h0
open Go.RowKit Go.Lib in
theorem YtffcapkjfmkkaaaGreatDoor.strings_IndexAny_one (s chars : ByteArray) (w : World) (h1 : chars.size = 1) (hascii : ∀ (j : Nat) b, chars.data.toList[j]? = some b → b.toNat < 128) :
    Calls Tryz.prog 46 #[.string s, .string chars] w fun e w' => e = .returned (.int .i64 (Lib.indexAny s.data.toList chars.data.toList)) ∧ w' = w := Any.strings_IndexAny_one YtffcapkjfmkkaaaGreatDoor.lays153 s chars w h1 hascii
open Go.RowKit Go.Lib in
theorem YtffcapkjfmkkaaaGreatDoor.strings_IndexAny_short (s chars : ByteArray) (w : World) (h2 : 2 ≤ chars.size) (h8 : s.size ≤ 8) (hascii : ∀ (j : Nat) b, s.data.toList[j]? = some b → b.toNat < 128) :
    Calls Tryz.prog 46 #[.string s, .string chars] w fun e w' => e = .returned (.int .i64 (Lib.indexAny s.data.toList chars.data.toList)) ∧ ∃ pos, w' = w.iter s pos := Any.strings_IndexAny_short YtffcapkjfmkkaaaGreatDoor.lays153 s chars w h2 h8 hascii
def YtffcapkjfmkkaaaGreatDoor.lays227_ren : Go.Shelf.Ren := ⟨fun | 227 => 41 | n => n, fun | 9 => 9 | 116 => 73 | 4 => 4 | 0 => 0 | 3 => 3 | 5 => 5 | n => n, fun | n => n⟩
theorem YtffcapkjfmkkaaaGreatDoor.lays227 : Go.Proofs.Lays.n227 Tryz.prog YtffcapkjfmkkaaaGreatDoor.lays227_ren := {
  mixed := by kernel_rfl
  f227 := Tryz.func41.trans (congrArg some (by kernel_rfl))
  t0 := Tryz.underlying0
  a0 := Tryz.isAgg0
  z0 := Tryz.sizeOf0
  v0 := Tryz.zeroValue0
  t3 := Tryz.underlying3
  a3 := Tryz.isAgg3
  z3 := Tryz.sizeOf3
  v3 := Tryz.zeroValue3
  t4 := Tryz.underlying4
  a4 := Tryz.isAgg4
  z4 := Tryz.sizeOf4
  v4 := Tryz.zeroValue4
  t5 := Tryz.underlying5
  a5 := Tryz.isAgg5
  z5 := Tryz.sizeOf5
  v5 := Tryz.zeroValue5
  t9 := Tryz.underlying9
  a9 := Tryz.isAgg9
  z9 := Tryz.sizeOf9
  v9 := Tryz.zeroValue9
  t116 := Tryz.underlying73
  a116 := Tryz.isAgg73
  z116 := Tryz.sizeOf73 }
open Go.RowKit Go.Lib in
theorem YtffcapkjfmkkaaaGreatDoor.strings_makeASCIISet (hv116 : ∀ w, (zeroValue 73).run Tryz.prog w = .ok (.agg (Array.replicate 256 (.bool false))) w) (chars : ByteArray) (w : World) (hs : chars.size < 4294967281) (hascii : ∀ (j : Nat) b, chars.data.toList[j]? = some b → b.toNat < 128) :
    Calls Tryz.prog 41 #[.string chars] w fun e w' => e = .returned (.tuple #[.agg (Lib.setCells chars.data.toList), .bool true]) ∧ w' = w.alloc (.cells (Lib.setCells chars.data.toList) 73) := Any.strings_makeASCIISet YtffcapkjfmkkaaaGreatDoor.lays227 hv116 (by kernel_rfl) chars w hs hascii
def YtffcapkjfmkkaaaGreatDoor.lays228_ren : Go.Shelf.Ren := ⟨fun | 228 => 57 | n => n, fun | 124 => 77 | 5 => 5 | 4 => 4 | 0 => 0 | 116 => 73 | n => n, fun | n => n⟩
theorem YtffcapkjfmkkaaaGreatDoor.lays228 : Go.Proofs.Lays.n228 Tryz.prog YtffcapkjfmkkaaaGreatDoor.lays228_ren := {
  mixed := by kernel_rfl
  f228 := Tryz.func57.trans (congrArg some (by kernel_rfl))
  t0 := Tryz.underlying0
  a0 := Tryz.isAgg0
  z0 := Tryz.sizeOf0
  v0 := Tryz.zeroValue0
  t4 := Tryz.underlying4
  a4 := Tryz.isAgg4
  z4 := Tryz.sizeOf4
  v4 := Tryz.zeroValue4
  t5 := Tryz.underlying5
  a5 := Tryz.isAgg5
  z5 := Tryz.sizeOf5
  v5 := Tryz.zeroValue5
  t116 := Tryz.underlying73
  a116 := Tryz.isAgg73
  z116 := Tryz.sizeOf73
  t124 := Tryz.underlying77
  a124 := Tryz.isAgg77
  z124 := Tryz.sizeOf77
  v124 := Tryz.zeroValue77 }
open Go.RowKit Go.Lib in
theorem YtffcapkjfmkkaaaGreatDoor.asciiSet_contains (b : Nat) (x : UInt8) (v : Bool) (w : World) (hc : w.cell? ⟨b, x.toNat, none⟩ = some (.bool v)) :
    Calls Tryz.prog 57 #[.pointer (some ⟨b, 0, none⟩), .int .u8 x.toNat] w fun e w' => e = .returned (.bool v) ∧ w' = w := Any.asciiSet_contains YtffcapkjfmkkaaaGreatDoor.lays228 b x v w hc
open Go.RowKit Go.Lib in
theorem YtffcapkjfmkkaaaGreatDoor.strings_IndexAny_long (hv116 : ∀ w, (zeroValue 73).run Tryz.prog w = .ok (.agg (Array.replicate 256 (.bool false))) w) (s chars : ByteArray) (w : World) (h2 : 2 ≤ chars.size) (h8 : 8 < s.size) (hs : s.size < 4294967281) (hcs : chars.size < 4294967281) (hascii : ∀ (j : Nat) b, chars.data.toList[j]? = some b → b.toNat < 128) :
    Calls Tryz.prog 46 #[.string s, .string chars] w fun e w' => e = .returned (.int .i64 (Lib.indexAny s.data.toList chars.data.toList)) ∧ w' = ((w.alloc (.cells (Lib.setCells chars.data.toList) 73)).alloc (.cells (Lib.setCells chars.data.toList) 73)) := Any.strings_IndexAny_long YtffcapkjfmkkaaaGreatDoor.lays153 hv116 (by kernel_rfl) s chars w h2 h8 hs hcs hascii
open Go.RowKit Go.Lib in
theorem YtffcapkjfmkkaaaGreatDoor.strings_IndexAny (hv116 : ∀ w, (zeroValue 73).run Tryz.prog w = .ok (.agg (Array.replicate 256 (.bool false))) w) (s chars : ByteArray) (w : World) (hs : s.size < 4294967281) (hcs : chars.size < 4294967281) (has : ∀ (j : Nat) b, s.data.toList[j]? = some b → b.toNat < 128) (hac : ∀ (j : Nat) b, chars.data.toList[j]? = some b → b.toNat < 128) :
    Calls Tryz.prog 46 #[.string s, .string chars] w fun e w' => e = .returned (.int .i64 (Lib.indexAny s.data.toList chars.data.toList)) ∧ Below w.heap.size w w' := Any.strings_IndexAny YtffcapkjfmkkaaaGreatDoor.lays153 hv116 (by kernel_rfl) s chars w hs hcs has hac
def YtffcapkjfmkkaaaGreatDoor.lays150_ren : Go.Shelf.Ren := ⟨fun | 150 => 30 | 153 => 46 | 152 => 61 | 226 => 62 | 227 => 41 | 228 => 57 | 137 => 75 | 119 => 76 | 224 => 77 | 225 => 78 | 217 => 92 | 266 => 101 | n => n, fun | 9 => 9 | 4 => 4 | 3 => 3 | 5 => 5 | 21 => 21 | 117 => 74 | 116 => 73 | 0 => 0 | 46 => 39 | 124 => 77 | n => n, fun | n => n⟩
theorem YtffcapkjfmkkaaaGreatDoor.lays150 : Go.Proofs.Lays.n150 Tryz.prog YtffcapkjfmkkaaaGreatDoor.lays150_ren := {
  mixed := by kernel_rfl
  f119 := Tryz.func76.trans (congrArg some (by kernel_rfl))
  f137 := Tryz.func75.trans (congrArg some (by kernel_rfl))
  f150 := Tryz.func30.trans (congrArg some (by kernel_rfl))
  f152 := Tryz.func61.trans (congrArg some (by kernel_rfl))
  f153 := Tryz.func46.trans (congrArg some (by kernel_rfl))
  f217 := Tryz.func92.trans (congrArg some (by kernel_rfl))
  f224 := Tryz.func77.trans (congrArg some (by kernel_rfl))
  f225 := Tryz.func78.trans (congrArg some (by kernel_rfl))
  f226 := Tryz.func62.trans (congrArg some (by kernel_rfl))
  f227 := Tryz.func41.trans (congrArg some (by kernel_rfl))
  f228 := Tryz.func57.trans (congrArg some (by kernel_rfl))
  f266 := Tryz.func101.trans (congrArg some (by kernel_rfl))
  t0 := Tryz.underlying0
  a0 := Tryz.isAgg0
  z0 := Tryz.sizeOf0
  v0 := Tryz.zeroValue0
  t3 := Tryz.underlying3
  a3 := Tryz.isAgg3
  z3 := Tryz.sizeOf3
  v3 := Tryz.zeroValue3
  t4 := Tryz.underlying4
  a4 := Tryz.isAgg4
  z4 := Tryz.sizeOf4
  v4 := Tryz.zeroValue4
  t5 := Tryz.underlying5
  a5 := Tryz.isAgg5
  z5 := Tryz.sizeOf5
  v5 := Tryz.zeroValue5
  t9 := Tryz.underlying9
  a9 := Tryz.isAgg9
  z9 := Tryz.sizeOf9
  v9 := Tryz.zeroValue9
  t21 := Tryz.underlying21
  a21 := Tryz.isAgg21
  z21 := Tryz.sizeOf21
  v21 := Tryz.zeroValue21
  t46 := Tryz.underlying39
  a46 := Tryz.isAgg39
  z46 := Tryz.sizeOf39
  v46 := Tryz.zeroValue39
  t116 := Tryz.underlying73
  a116 := Tryz.isAgg73
  z116 := Tryz.sizeOf73
  t117 := Tryz.underlying74
  a117 := Tryz.isAgg74
  z117 := Tryz.sizeOf74
  v117 := Tryz.zeroValue74
  t124 := Tryz.underlying77
  a124 := Tryz.isAgg77
  z124 := Tryz.sizeOf77
  v124 := Tryz.zeroValue77 }
open Go.RowKit Go.Lib in
theorem YtffcapkjfmkkaaaGreatDoor.strings_ContainsAny (hv116 : ∀ w, (zeroValue 73).run Tryz.prog w = .ok (.agg (Array.replicate 256 (.bool false))) w) (s chars : ByteArray) (w : World) (hs : s.size < 4294967281) (hcs : chars.size < 4294967281) (has : ∀ (j : Nat) b, s.data.toList[j]? = some b → b.toNat < 128) (hac : ∀ (j : Nat) b, chars.data.toList[j]? = some b → b.toNat < 128) :
    Calls Tryz.prog 30 #[.string s, .string chars] w fun e w' => e = .returned (.bool (Lib.containsAny s.data.toList chars.data.toList)) ∧ Below w.heap.size w w' := Any.strings_ContainsAny YtffcapkjfmkkaaaGreatDoor.lays150 hv116 (by kernel_rfl) s chars w hs hcs has hac
open Go.RowKit Go.Lib in
theorem YtffcapkjfmkkaaaGreatDoor.strings_IndexAny_laid (s chars : ByteArray) (w : World) (hs : s.size < 4294967281) (hcs : chars.size < 4294967281) (has : ∀ (j : Nat) b, s.data.toList[j]? = some b → b.toNat < 128) (hac : ∀ (j : Nat) b, chars.data.toList[j]? = some b → b.toNat < 128) :
    Calls Tryz.prog 46 #[.string s, .string chars] w fun e w' => e = .returned (.int .i64 (Lib.indexAny s.data.toList chars.data.toList)) ∧ Below w.heap.size w w' := Any.strings_IndexAny_laid YtffcapkjfmkkaaaGreatDoor.lays153 (by kernel_rfl) s chars w hs hcs has hac
open Go.RowKit Go.Lib in
theorem YtffcapkjfmkkaaaGreatDoor.strings_ContainsAny_laid (s chars : ByteArray) (w : World) (hs : s.size < 4294967281) (hcs : chars.size < 4294967281) (has : ∀ (j : Nat) b, s.data.toList[j]? = some b → b.toNat < 128) (hac : ∀ (j : Nat) b, chars.data.toList[j]? = some b → b.toNat < 128) :
    Calls Tryz.prog 30 #[.string s, .string chars] w fun e w' => e = .returned (.bool (Lib.containsAny s.data.toList chars.data.toList)) ∧ Below w.heap.size w w' := Any.strings_ContainsAny_laid YtffcapkjfmkkaaaGreatDoor.lays150 (by kernel_rfl) s chars w hs hcs has hac
def YtffcapkjfmkkaaaGreatDoor.lays260_ren : Go.Shelf.Ren := ⟨fun | 260 => 73 | n => n, fun | 9 => 9 | 21 => 21 | 3 => 3 | 4 => 4 | 5 => 5 | 119 => 129 | 0 => 0 | 46 => 39 | 139 => 138 | 138 => 137 | n => n, fun | 3 => 0 | 4 => 1 | n => n⟩
theorem YtffcapkjfmkkaaaGreatDoor.lays260 : Go.Proofs.Lays.n260 Tryz.prog YtffcapkjfmkkaaaGreatDoor.lays260_ren := {
  mixed := by kernel_rfl
  f260 := Tryz.func73.trans (congrArg some (by kernel_rfl))
  t0 := Tryz.underlying0
  a0 := Tryz.isAgg0
  z0 := Tryz.sizeOf0
  v0 := Tryz.zeroValue0
  t3 := Tryz.underlying3
  a3 := Tryz.isAgg3
  z3 := Tryz.sizeOf3
  v3 := Tryz.zeroValue3
  t4 := Tryz.underlying4
  a4 := Tryz.isAgg4
  z4 := Tryz.sizeOf4
  v4 := Tryz.zeroValue4
  t5 := Tryz.underlying5
  a5 := Tryz.isAgg5
  z5 := Tryz.sizeOf5
  v5 := Tryz.zeroValue5
  t9 := Tryz.underlying9
  a9 := Tryz.isAgg9
  z9 := Tryz.sizeOf9
  v9 := Tryz.zeroValue9
  t21 := Tryz.underlying21
  a21 := Tryz.isAgg21
  z21 := Tryz.sizeOf21
  v21 := Tryz.zeroValue21
  t46 := Tryz.underlying39
  a46 := Tryz.isAgg39
  z46 := Tryz.sizeOf39
  v46 := Tryz.zeroValue39
  t119 := Tryz.underlying129
  a119 := Tryz.isAgg129
  z119 := Tryz.sizeOf129
  t138 := Tryz.underlying137
  a138 := Tryz.isAgg137
  z138 := Tryz.sizeOf137
  v138 := Tryz.zeroValue137
  t139 := Tryz.underlying138
  a139 := Tryz.isAgg138
  z139 := Tryz.sizeOf138
  v139 := Tryz.zeroValue138
  g3 := by kernel_rfl
  g4 := by kernel_rfl }
open Go.RowKit Go.Lib in
theorem YtffcapkjfmkkaaaGreatDoor.utf8_decodeRuneInStringSlow (s : ByteArray) (w : World) (hT : Lib.Utf8Tabs 0 1 w) :
    Calls Tryz.prog 73 #[.string s] w fun e w' => e = .returned (.tuple #[.int .i32 (Lib.decodeGo s).1, .int .i64 (Lib.decodeGo s).2]) ∧ Below w.heap.size w w' := Any.utf8_decodeRuneInStringSlow YtffcapkjfmkkaaaGreatDoor.lays260 s w hT
end Go.Proofs
namespace Go.Proofs.YtffcapkjfmkkaaaGreatDoor
open Go.RowKit
theorem decode_one (s : ByteArray) (h : s.size = 1) (ha : 128 ≤ (s[0]'(by omega)).toNat) : Utf8.decode s 0 = (65533, 1) := by
  rw [Lib.decode_N]
  refine Lib.decodeN_alone _ _ _ _ _ ?_ (.inl (by rw [size_list]; omega))
  rw [List.getD_eq_getElem?_getD, List.getElem?_eq_getElem (by rw [size_list]; omega), get_list s 0 (by omega)]
  exact ha
set_option maxRecDepth 100000 in
set_option maxHeartbeats 2000000 in
theorem indexRune_bad (s : ByteArray) (w : World) (ha : ∀ (i : Nat) (h : i < s.size), (s[i]'h).toNat < 128) :
    Calls Tryz.prog 61 #[.string s, .int .i32 65533] w fun e w' => e = .returned (.int .i64 (-1)) ∧ Below w.heap.size w w' := by
  have HA := Lib.hid ha
  clear ha
  go_enter Tryz.func61, Tryz.ntmps61
  go_wp2
  go_loopg [5, 6] s.size (fun g _ _ wx => ∃ i : Nat, i + g = s.size ∧ wx = w.iter s i)
  case atStart => exact ⟨0, by omega, rfl⟩
  case round =>
    obtain ⟨i, hig, rfl⟩ := hrel
    cases gk with
    | zero =>
      obtain rfl : i = s.size := by omega
      have hnx := run_next_end (P := Tryz.prog) w s s.size
      go_wp2
      go_ret
      exact ⟨rfl, Below.alloc (Below.refl _ _) (Nat.le_refl _) _⟩
    | succ g =>
      have hi : i < s.size := by omega
      have hnx := fun ty => run_next_ascii (P := Tryz.prog) w s i ty hi (HA.out i hi)
      have h5 : (((s[i]'hi).toNat : Int) == 65533) = false := by
        have := HA.out i hi
        rw [beq_eq_false_iff_ne]; omega
      go_wp2
      go_roundg g
      case measure => omega
      case rel => exact ⟨i + 1, by omega, rfl⟩
def nameMid : Bs := [95, 45, 46, 58]
theorem mid_ascii : ∀ (i : Nat) (h : i < (⟨nameMid.toArray⟩ : ByteArray).size), ((⟨nameMid.toArray⟩ : ByteArray)[i]'h).toNat < 128 := by decide
theorem mid_any : ∀ c : UInt8, Lib.containsAny [c] nameMid = hasB nameMid c := all_u8 (by decide +kernel)
theorem mid_high : ∀ c : UInt8, 128 ≤ c.toNat → hasB nameMid c = false := all_u8 (by decide +kernel)
set_option maxRecDepth 100000 in
set_option maxHeartbeats 2000000 in
theorem indexAny_high (s : ByteArray) (w : World) (h1 : s.size = 1) (ha : 128 ≤ (s[0]'(by omega)).toNat) :
    Calls Tryz.prog 46 #[.string s, .string ⟨nameMid.toArray⟩] w fun e w' => e = .returned (.int .i64 (-1)) ∧ Below w.heap.size w w' := by
  have hd := decode_one s h1 ha
  have h8 : decide ((8 : Int) < (s.size : Int)) = false := decide_eq_false (by omega)
  have H1 := Lib.hid h1
  have HD := Lib.hid hd
  have h0 : 0 < s.size := by omega
  have h9 : ¬ 1 < s.size := by omega
  clear h1 hd ha
  go_enter Tryz.func46, Tryz.ntmps46
  go_wp2_with (go_at_call 62; refine (strings_shouldUseASCIISet _ _).mono ?_; rintro e w' ⟨rfl, hw⟩; rw [hw, h8])
  go_loopg [9, 10] s.size (fun g _ _ wx => ∃ i : Nat, i + g = 1 ∧ wx.heap[w.heap.size]? = some (.stringIter s i) ∧ Below w.heap.size w wx)
  case atStart => exact ⟨0, by have := H1.out; omega, World.iter_heap w s 0, Below.alloc (Below.refl _ _) (Nat.le_refl _) _⟩
  case round =>
    obtain ⟨i, hig, hk, hb⟩ := hrel
    have HK := Lib.hid hk
    clear hk
    cases gk with
    | zero =>
      obtain rfl : i = 1 := by omega
      have hx := fun ty => Lib.run_next_end_at (P := Tryz.prog) wr w.heap.size s 1 ty HK.out h9
      go_wp2
      go_ret
      exact ⟨rfl, hb⟩
    | succ g =>
      obtain rfl : i = 0 := by omega
      have hn0 := fun ty => Lib.run_next_any_at (P := Tryz.prog) wr w.heap.size s 0 ty HK.out h0
      rw [HD.out] at hn0
      go_wp2_with fail
      refine (indexRune_bad _ _ mid_ascii).mono ?_
      rintro e w' ⟨rfl, hb2⟩
      go_wp2
      go_roundg g
      case measure => omega
      case rel =>
        have hlt : w.heap.size < wr.heap.size := (Array.getElem?_eq_some_iff.1 HK.out).1
        refine ⟨1, by omega, ?_, (Lib.below_iterAt hb (Nat.le_refl _) s 1).trans (hb2.mono (by rw [Lib.iterAt_size]; exact hb.size))⟩
        rw [hb2.block _ (by rw [Lib.iterAt_size]; exact hlt)]
        exact Lib.iterAt_heap wr _ s 0 1 HK.out
theorem mid_list (j : Nat) (b : UInt8) (h : nameMid[j]? = some b) : b.toNat < 128 :=
  (by decide : ∀ b ∈ nameMid, b.toNat < 128) b (List.mem_of_getElem? h)
theorem containsAny_one (s : ByteArray) (c : UInt8) (w : World) (h : s.data.toList = [c]) :
    Calls Tryz.prog 30 #[.string s, .string ⟨nameMid.toArray⟩] w fun e w' => e = .returned (.bool (hasB nameMid c)) ∧ Below w.heap.size w w' := by
  have h1 : s.size = 1 := by rw [← size_list, h]; rfl
  have hc : s[0]'(by omega) = c := by
    have := drop_cons s 0 (by omega)
    rw [List.drop_zero, h] at this; injection this with this _; exact this.symm
  by_cases ha : c.toNat < 128
  · refine (strings_ContainsAny_laid s ⟨nameMid.toArray⟩ w (by omega) (by decide) ?_ mid_list).mono ?_
    · rw [h]; intro j b hb
      cases j with
      | zero => simp at hb; subst hb; exact ha
      | succ j => simp at hb
    · rintro e w' ⟨rfl, hb⟩
      refine ⟨?_, hb⟩
      rw [h]; exact ret_bool (mid_any c)
  · have ha' : 128 ≤ c.toNat := by omega
    have hm := mid_high c ha'
    have HI := Lib.hid (fun w => indexAny_high s w h1 (by rw [hc]; exact ha'))
    have HM := Lib.hid hm
    clear hm h ha ha' hc h1
    go_enter Tryz.func30, Tryz.ntmps30
    go_wp2_with fail
    refine (HI.out _).mono ?_
    rintro e w' ⟨rfl, hb⟩
    go_wp2
    go_ret
    exact ⟨by rw [HM.out]; rfl, hb⟩
theorem nm1_mid (c : UInt8) : nm1 false c = ((alphaB c || digitB c) || hasB nameMid c) := by
  have h : hasB nameMid c = (((c.toNat : Int) == 95) || hasB [45, 46, 58] c) := all_u8 (p := fun c => hasB nameMid c = (((c.toNat : Int) == 95) || hasB [45, 46, 58] c)) (by decide +kernel) c
  rw [h]; unfold nm1
  cases alphaB c <;> cases digitB c <;> cases ((c.toNat : Int) == 95) <;> cases hasB [45, 46, 58] c <;> rfl
theorem nmAll_first (c : UInt8) (l : Bs) (h : nm1 true c = true) : nmAll true (c :: l) = nmAll false (c :: l) := by
  unfold nmAll
  have : nm1 false c = true := by
    unfold nm1 at *; simp at h ⊢; exact .inl h
  rw [h, this]
theorem isEmpty_false (s : ByteArray) (h : 0 < s.size) : s.toList.isEmpty = false := by
  rw [Lib.toList_data]
  cases e : s.data.toList with
  | nil => have := size_list s; rw [e] at this; simp at this; omega
  | cons _ _ => rfl
theorem isEmpty_true (s : ByteArray) (h : ¬ 0 < s.size) : s.toList.isEmpty = true := by
  rw [Lib.toList_data]
  have : s.data.toList = [] := List.eq_nil_of_length_eq_zero (by rw [size_list]; omega)
  rw [this]; rfl
set_option maxHeartbeats 2000000 in
theorem Name_walk (s : ByteArray) (w : World) (hs : s.size ≤ maxLen) :
    Calls Tryz.prog 14 #[.string s] w fun e w' => e = .returned (.bool (nameB s.data.toList)) ∧ Below w.heap.size w w' := by
  unfold maxLen at hs
  by_cases h0 : 0 < s.size
  · have he := isEmpty_false s h0
    by_cases h64 : 64 < s.size
    · have h64' : decide ((64 : Int) < (s.size : Int)) = true := decide_eq_true (by omega)
      have HN : Hid (nameB s.data.toList = false) := by
        show _ = _; unfold nameB; rw [size_list, show decide (s.size ≤ 64) = false from decide_eq_false (by omega)]; simp
      go_enter Tryz.func14, Tryz.ntmps14
      go_wp2
      go_ret
      exact ⟨ret_bool HN.out.symm, Below.refl _ _⟩
    · have h64' : decide ((64 : Int) < (s.size : Int)) = false := decide_eq_false (by omega)
      have HN : Hid (nameB s.data.toList = nmAll true s.data.toList) := by
        show _ = _; unfold nameB; rw [size_list, show decide (s.size ≤ 64) = true from decide_eq_true (by omega), show decide (1 ≤ s.size) = true from decide_eq_true h0]; simp
      have HD := Lib.hid (show s.data.toList = s[0] :: s.data.toList.drop 1 from drop_cons s 0 h0)
      have ha := and_alpha s[0]
      by_cases hf : nm1 true s[0] = true
      · have HF := Lib.hid hf
        have HN2 : Hid (nameB s.data.toList = nmAll false s.data.toList) := by
          show _ = _; rw [HN.out, HD.out, nmAll_first _ _ HF.out]
        have hor : alphaB s[0] = true ∨ (alphaB s[0] = false ∧ ((s[0].toNat : Int) != 95) = false) := by
          unfold nm1 at hf
          cases hal : alphaB s[0]
          · rw [hal] at hf; simp at hf; exact .inr ⟨rfl, by simp [hf]⟩
          · exact .inl rfl
        clear hf
        rcases hor with hal | ⟨hal, h95⟩
        all_goals
          rw [hal] at ha
          simp only [if_true, Bool.false_eq_true, if_false] at ha
          clear hal
          go_enter Tryz.func14, Tryz.ntmps14
          go_wp2_with ((go_at_call 29; refine (Class_walk _ _).mono ?_; rintro e w' ⟨rfl, rfl⟩))
          go_loopw [26, 3, 4] (fun i _ _ wr => ∃ k : Nat, k ≤ s.size ∧ i = .int .i64 k ∧ nmAll false s.data.toList = nmAll false (s.data.toList.drop k) ∧ Below w.heap.size w wr) (fun i _ _ _ => s.size - (intOf i).toNat)
          case atStart => exact ⟨0, by omega, rfl, rfl, Below.refl _ _⟩
          case round =>
            obtain ⟨k, hk, rfl, ht, hd⟩ := hrel
            have HT := Lib.hid ht
            clear ht
            by_cases hlt : k < s.size
            · have HD2 := Lib.hid (drop_cons s k hlt)
              have hal := and_alnum s[k]
              have HX : Hid ((s.extract k (k + 1)).data.toList = [s[k]]) := quote_list s k hlt
              cases han : (alphaB s[k] || digitB s[k])
              · rw [han] at hal
                cases hm : hasB nameMid s[k]
                · have HQ : Hid (nm1 false s[k] = false) := by show _ = _; rw [nm1_mid, han, hm]; rfl
                  have HM := Lib.hid hm
                  clear han hm
                  go_wp2_with (first | (go_at_call 29; refine (Class_walk _ _).mono ?_; rintro e w' ⟨rfl, rfl⟩) | (go_at_call 30; refine (containsAny_one _ s[k] _ HX.out).mono ?_; rintro e w' ⟨rfl, hb⟩; rw [HM.out]))
                  go_ret
                  exact ⟨ret_bool (by rw [HN2.out, HT.out, HD2.out, nmAll, HQ.out]; rfl), hd.trans (hb.mono hd.size)⟩
                · have HQ : Hid (nm1 false s[k] = true) := by show _ = _; rw [nm1_mid, han, hm]; rfl
                  have HM := Lib.hid hm
                  clear han hm
                  go_wp2_with (first | (go_at_call 29; refine (Class_walk _ _).mono ?_; rintro e w' ⟨rfl, rfl⟩) | (go_at_call 30; refine (containsAny_one _ s[k] _ HX.out).mono ?_; rintro e w' ⟨rfl, hb⟩; rw [HM.out]))
                  exact ⟨⟨k + 1, by omega, by go_num, by rw [HT.out, HD2.out, nmAll, HQ.out, Bool.true_and], hd.trans (hb.mono hd.size)⟩, by simp [intOf]; omega⟩
              · rw [han] at hal
                have HQ : Hid (nm1 false s[k] = true) := by show _ = _; rw [nm1_mid, han]; rfl
                clear han
                go_wp2_with ((go_at_call 29; refine (Class_walk _ _).mono ?_; rintro e w' ⟨rfl, rfl⟩))
                exact ⟨⟨k + 1, by omega, by go_num, by rw [HT.out, HD2.out, nmAll, HQ.out, Bool.true_and], hd⟩, by simp [intOf]; omega⟩
            · have HD2 := Lib.hid (drop_all s k (by omega))
              go_wp2
              go_ret
              exact ⟨ret_bool (by rw [HN2.out, HT.out, HD2.out]; rfl), hd⟩
      · have hf' : nm1 true s[0] = false := by simpa using hf
        have HN2 : Hid (nameB s.data.toList = false) := by
          show _ = _; rw [HN.out, HD.out, nmAll, hf']; rfl
        have hal : alphaB s[0] = false ∧ ((s[0].toNat : Int) != 95) = true := by
          unfold nm1 at hf'; simp at hf'; exact ⟨hf'.1, by simp [hf'.2]⟩
        obtain ⟨hal, h95⟩ := hal
        rw [hal] at ha
        simp only [Bool.false_eq_true, if_false] at ha
        clear hal hf hf'
        go_enter Tryz.func14, Tryz.ntmps14
        go_wp2_with ((go_at_call 29; refine (Class_walk _ _).mono ?_; rintro e w' ⟨rfl, rfl⟩))
        go_ret
        exact ⟨ret_bool HN2.out.symm, Below.refl _ _⟩
  · have he := isEmpty_true s h0
    have HN : Hid (nameB s.data.toList = false) := by
      show _ = _; unfold nameB; rw [size_list, show decide (1 ≤ s.size) = false from decide_eq_false (by omega)]; simp
    go_enter Tryz.func14, Tryz.ntmps14
    go_wp2
    go_ret
    exact ⟨ret_bool HN.out.symm, Below.refl _ _⟩
end Go.Proofs.YtffcapkjfmkkaaaGreatDoor
namespace Go.Proofs.YtffcapkjfmkkaaaGreatDoor
open Go.RowKit
def signRows : List (List Bool × Bool) := [([true, true, true, true, false], false), ([true, false, true, true, false], true), ([true, true, false, true, false], true), ([true, true, true, false, false], true), ([false, true, true, true, true], false), ([false, true, true, true, false], true)]
theorem sign_rows : ∀ c : UInt8, ([decide ((c.toNat : Int) < 32), ((c.toNat : Int) != 9), ((c.toNat : Int) != 13), ((c.toNat : Int) != 10), ((c.toNat : Int) == 127)], sign1 c) ∈ signRows := all_u8 (by decide +kernel)
set_option maxHeartbeats 2000000 in
theorem signs_walk (s : ByteArray) (w : World) (hs : s.size ≤ maxLen) :
    Calls Tryz.prog 26 #[.string s] w fun e w' => e = .returned (.bool (signsB s.data.toList)) ∧ Dr w w' := by
  unfold maxLen at hs
  go_enter Tryz.func26, Tryz.ntmps26
  go_wp2
  go_loopw [7, 3, 4] (fun i _ _ wr => ∃ k : Nat, k ≤ s.size ∧ i = .int .i64 k ∧ signsB s.data.toList = signsB (s.data.toList.drop k) ∧ Dr w wr) (fun i _ _ _ => s.size - (intOf i).toNat)
  case atStart => exact ⟨0, by omega, rfl, rfl, Dr.refl w⟩
  case round =>
    obtain ⟨k, hk, rfl, ht, hd⟩ := hrel
    have HT := Lib.hid ht
    clear ht
    by_cases hlt : k < s.size
    · have HD := Lib.hid (drop_cons s k hlt)
      have hm := sign_rows s[k]
      unfold signRows at hm
      simp only [List.mem_cons, Prod.mk.injEq, List.not_mem_nil, or_false, List.cons.injEq, and_true] at hm
      rcases hm with ⟨⟨h1, h2, h3, h4, h5⟩, hv⟩ | ⟨⟨h1, h2, h3, h4, h5⟩, hv⟩ | ⟨⟨h1, h2, h3, h4, h5⟩, hv⟩ | ⟨⟨h1, h2, h3, h4, h5⟩, hv⟩ | ⟨⟨h1, h2, h3, h4, h5⟩, hv⟩ | ⟨⟨h1, h2, h3, h4, h5⟩, hv⟩
      all_goals
        have HV := Lib.hid hv
        clear hv
        go_wp2
        first
          | exact ⟨⟨k + 1, by omega, by go_num, by rw [HT.out, HD.out, signsB, HV.out, Bool.true_and], hd⟩, by simp [intOf]; omega⟩
          | (go_ret
             exact ⟨ret_bool (by rw [HT.out, HD.out, signsB, HV.out]; rfl), hd⟩)
    · have HD := Lib.hid (drop_all s k (by omega))
      go_wp2
      go_ret
      exact ⟨ret_bool (by rw [HT.out, HD.out]; rfl), hd⟩
end Go.Proofs.YtffcapkjfmkkaaaGreatDoor
namespace Go.Proofs.YtffcapkjfmkkaaaGreatDoor
open Go.RowKit Go.Maps
theorem lawS : Keyed Tryz.prog 9 := string_keyed Tryz.underlying9
theorem zeroI (w : World) : (zeroValue 3).run Tryz.prog w = .ok (.int .i64 0) w := by kernel_rfl
abbrev Kn (l : Bs) : Lit := .string l
/-- What the map of names holds. -/
def Seen (D : DataW Unit) (ps : List Par) : Prop := ∀ n : Bs, D.atKey (Kn n) (.lit (.int .i64 0)) = .lit (.int .i64 (if ps.any fun q => q.name == n then 1 else 0))
theorem Seen.nil : Seen (.map []) [] := fun _ => rfl
theorem Seen.snoc {D : DataW Unit} {ps : List Par} (h : Seen D ps) (hm : IsMap D) (p : Par) : Seen (D.put (Kn p.name) (.lit (.int .i64 1))) (ps ++ [p]) := by
  intro n
  by_cases e : n = p.name
  · subst e
    rw [atKey_put_same hm (by trivial)]; simp
  · rw [atKey_put_other (by simpa [Kn] using e), h n]
    have : (p.name == n) = false := by simp; exact fun h => e h.symm
    simp [this]
theorem Name_val (l : Bs) (w : World) (hs : l.length ≤ maxLen) (b : Bool) (h : nameB l = b) :
    Calls Tryz.prog 14 #[.string ⟨l.toArray⟩] w fun e w' => e = .returned (.bool b) ∧ Below w.heap.size w w' := by
  subst h; exact Name_walk ⟨l.toArray⟩ w hs
theorem signs_val (l : Bs) (w : World) (hs : l.length ≤ maxLen) (b : Bool) (h : signsB l = b) :
    Calls Tryz.prog 26 #[.string ⟨l.toArray⟩] w fun e w' => e = .returned (.bool b) ∧ Dr w w' := by
  subst h; exact signs_walk ⟨l.toArray⟩ w hs
theorem var_cell {w w1 : World} {cs : Array Value} {T : TypeId} {row : Option Nat} (hg : (w.alloc (.cells cs T)).grownBy w1 row) (hne : some w.heap.size ≠ row) (j : Nat) : w1.cell? ⟨w.heap.size, j, none⟩ = cs[j]? :=
  blk_cell (by rw [hg.block _ (by simp) hne]; exact heap_alloc_new w _) j
set_option maxRecDepth 100000 in
set_option maxHeartbeats 4000000 in
theorem attrs_walk (u : Value) (ps : List Par) (w : World) (hp : RPar w u ps) (hlen : ps.length < maxLen) :
    Calls Tryz.prog 25 #[u] w fun e w' => e = .returned (.bool (attrsB ps)) ∧ Below w.heap.size w w' := by
  unfold maxLen at hlen
  have hp0 := hp
  obtain ⟨A, c, rfl, -, hm, -⟩ := hp
  have hmm := @run_makeMap Tryz.prog
  go_enter Tryz.func25, Tryz.ntmps25
  go_wp2
  go_loopw [9, 5] (fun i _ wr => ∃ (k : Nat) (D : DataW Unit), k ≤ ps.length ∧ i = .int .i64 k ∧ attrsA [] ps = attrsA (ps.take k) (ps.drop k) ∧ wr.ownsMap Tryz.prog 9 (plainElem Tryz.prog 3) w.heap.size k D ∧ Seen D (ps.take k) ∧ Below w.heap.size w wr) (fun i _ _ => ps.length - (intOf i).toNat)
  case atStart => exact ⟨0, _, by omega, rfl, rfl, World.ownsMap_made _ _ _ _, Seen.nil, (Below.refl _ _).alloc (Nat.le_refl _) _⟩
  case round =>
    obtain ⟨k, D, hk, rfl, ht, hown, hseen, hb⟩ := hrel
    have HT := Lib.hid ht
    have HS := Lib.hid hseen
    have HO := Lib.hid hown
    clear ht hseen hown
    have hne : some wr.heap.size ≠ some w.heap.size := by intro e; injection e with e; have := HO.out.lt; omega
    by_cases hlt : k < ps.length
    · have HA := Lib.hid (attrsA_at ps k hlt)
      obtain ⟨a, rfl, a0, a1, a2, n1, n2⟩ := (hp0.keep hb).at_ k hlt
      have HN := Lib.hid n1
      have HV := Lib.hid n2
      clear n1 n2
      have hkey : Hid (keyOf Tryz.prog 9 (.string ⟨ps[k].name.toArray⟩) = some (Kn ps[k].name)) := WideMaps.keyOf_string_mk Tryz.underlying9 HN.out
      have hn := HS.out ps[k].name
      have ret0 : attrOK (ps.take k) ps[k] = false → ∀ w', Below w.heap.size w w' → (Ending.returned (.bool false) = .returned (.bool (attrsB ps)) ∧ Below w.heap.size w w') := fun h w' h' => ⟨ret_bool (by unfold attrsB; rw [HT.out, HA.out, h]; simp), h'⟩
      have HR := Lib.hid ret0
      clear ret0
      cases hany : ((ps.take k).any fun q => q.name == ps[k].name)
      · rw [hany] at hn
        have HAT := Lib.hid hn
        have HANY := Lib.hid hany
        clear hn hany
        go_wp2_with (first
          | (at_lookup; refine wpList_lookup_own_int _ rfl _ _ 70 rfl 9 3 .i64 lawS Tryz.underlying70 Tryz.underlying3 (zeroI _) w.heap.size k D rfl (HO.out.alloc _) _ _ rfl hkey.out ?_; intro c hat hwc; obtain rfl : c = 0 := by (rw [HAT.out] at hat; injection hat with hat; injection hat with _ hat; exact hat.symm))
          | (at_mapUpdate; refine wpList_mapUpdate_own _ rfl _ _ _ 70 rfl 9 3 lawS Tryz.underlying70 _ w.heap.size k D rfl (HO.out.alloc _) (by unfold maxLen; omega) _ _ _ rfl rfl hkey.out _ [] (plainElem_int Tryz.underlying3 (by decide)) ?_; intro w1 hown1 hgrow1; have v0 := var_cell hgrow1 hne 0; have v1 := var_cell hgrow1 hne 1; have v2 := var_cell hgrow1 hne 2)
          | fail)
        have hb1 := (Below.alloc hb hb.size _).grown hgrow1 (Nat.le_trans hb.size (by simp)) (fun j hj => by cases hj; exact Nat.le_refl _)
        have HW := Lib.hid hown1
        have HB := Lib.hid hb1
        clear hown1 hgrow1 hb1
        generalize hbn : nameB ps[k].name = bn
        have HBN := Lib.hid hbn
        refine (Name_val _ _ HN.out bn hbn).mono ?_
        clear hbn
        rintro e w2 ⟨rfl, hb2⟩
        have HB2 := Lib.hid (HB.out.trans (hb2.mono HB.out.size))
        have u0 := cell_keep hb2 v0
        have u1 := cell_keep hb2 v1
        have u2' := cell_keep hb2 v2
        obtain ⟨c2, hrun, hat2, hwc2⟩ := (HW.out.kept (below_grown hb2) (by simp)).lookup_int (t := 70) lawS Tryz.underlying70 Tryz.underlying3 (zeroI _) hkey.out
        rw [atKey_put_same HO.out.isMap (by trivial)] at hat2
        have hc2 : c2 = 0 + 1 := by injection hat2 with hat2; injection hat2 with _ hat2; exact hat2.symm
        subst hc2
        have HW2 := Lib.hid (HW.out.kept (below_grown hb2) (by simp))
        clear hat2 hwc2 v0 v1 v2 hb2
        cases bn
        · go_wp2_with fail
          go_ret
          exact HR.out (by simp [attrOK, HBN.out]) _ HB2.out
        · cases hh : ps[k].has
          · rw [hh] at u2'
            have HH := Lib.hid hh
            clear hh
            go_wp2_with fail
            go_ret
            exact HR.out (by simp [attrOK, HH.out]) _ HB2.out
          · rw [hh] at u2'
            have HH := Lib.hid hh
            clear hh
            go_wp2_with fail
            generalize hbs : signsB ps[k].value = bs
            have HBS := Lib.hid hbs
            refine (signs_val _ _ HV.out bs hbs).mono ?_
            clear hbs
            rintro e w3 ⟨rfl, m, rfl⟩
            cases bs
            · go_wp2_with fail
              go_ret
              exact HR.out (by simp [attrOK, HBS.out]) _ (Dr.below ⟨_, rfl⟩ HB2.out)
            · go_wp2_with fail
              refine ⟨⟨k + 1, _, by omega, by go_num, ?_, (HW2.out.kept (below_grown (Dr.below0 ⟨m, rfl⟩)) (by simp)), ?_, Dr.below ⟨_, rfl⟩ HB2.out⟩, by simp [intOf]; omega⟩
              · rw [HT.out, HA.out]; simp [attrOK, HBN.out, HBS.out, HH.out, HANY.out]
              · rw [List.take_succ_eq_append_getElem hlt]; exact HS.out.snoc HO.out.isMap _
      · rw [hany] at hn
        have HAT := Lib.hid hn
        have HANY := Lib.hid hany
        clear hn hany
        go_wp2_with (first
          | (at_lookup; refine wpList_lookup_own_int _ rfl _ _ 70 rfl 9 3 .i64 lawS Tryz.underlying70 Tryz.underlying3 (zeroI _) w.heap.size k D rfl (HO.out.alloc _) _ _ rfl hkey.out ?_; intro c hat hwc; obtain rfl : c = 1 := by (rw [HAT.out] at hat; injection hat with hat; injection hat with _ hat; exact hat.symm))
          | (at_mapUpdate; refine wpList_mapUpdate_own _ rfl _ _ _ 70 rfl 9 3 lawS Tryz.underlying70 _ w.heap.size k D rfl (HO.out.alloc _) (by unfold maxLen; omega) _ _ _ rfl rfl hkey.out _ [] (plainElem_int Tryz.underlying3 (by decide)) ?_; intro w1 hown1 hgrow1; have v0 := var_cell hgrow1 hne 0; have v1 := var_cell hgrow1 hne 1; have v2 := var_cell hgrow1 hne 2)
          | fail)
        have hb1 := (Below.alloc hb hb.size _).grown hgrow1 (Nat.le_trans hb.size (by simp)) (fun j hj => by cases hj; exact Nat.le_refl _)
        have HW := Lib.hid hown1
        have HB := Lib.hid hb1
        clear hown1 hgrow1 hb1
        generalize hbn : nameB ps[k].name = bn
        have HBN := Lib.hid hbn
        refine (Name_val _ _ HN.out bn hbn).mono ?_
        clear hbn
        rintro e w2 ⟨rfl, hb2⟩
        have HB2 := Lib.hid (HB.out.trans (hb2.mono HB.out.size))
        have u0 := cell_keep hb2 v0
        have u1 := cell_keep hb2 v1
        have u2' := cell_keep hb2 v2
        obtain ⟨c2, hrun, hat2, hwc2⟩ := (HW.out.kept (below_grown hb2) (by simp)).lookup_int (t := 70) lawS Tryz.underlying70 Tryz.underlying3 (zeroI _) hkey.out
        rw [atKey_put_same HO.out.isMap (by trivial)] at hat2
        have hc2 : c2 = 1 + 1 := by injection hat2 with hat2; injection hat2 with _ hat2; exact hat2.symm
        subst hc2
        have HW2 := Lib.hid (HW.out.kept (below_grown hb2) (by simp))
        clear hat2 hwc2 v0 v1 v2 hb2
        cases bn
        all_goals
          go_wp2_with fail
          go_ret
          exact HR.out (by simp [attrOK, HANY.out]) _ HB2.out
    · obtain rfl : k = ps.length := by omega
      go_wp2
      go_ret
      refine ⟨ret_bool ?_, hb⟩
      unfold attrsB; rw [HT.out]; simp [attrsA]; omega
end Go.Proofs.YtffcapkjfmkkaaaGreatDoor
