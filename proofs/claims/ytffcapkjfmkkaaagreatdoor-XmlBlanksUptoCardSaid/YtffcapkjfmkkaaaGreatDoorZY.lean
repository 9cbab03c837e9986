/- A document that is written, with blanks between its tags, is read as it was: pure. -/
import Derived.Test.YtffcapkjfmkkaaaGreatDoorQ6
namespace Go.Proofs.YtffcapkjfmkkaaaGreatDoor
open Go.RowKit
theorem dropW_app {p : UInt8 → Bool} {a : Bs} {c : UInt8} {r : Bs} (h : ∀ x ∈ a, p x = true) (hc : p c = false) : dropW p (a ++ c :: r) = c :: r := by
  induction a with
  | nil => simp [dropW, hc]
  | cons x a ih => simp [dropW, h x (by simp)]; exact ih fun y hy => h y (by simp [hy])
theorem takeW_app {p : UInt8 → Bool} {a : Bs} {c : UInt8} {r : Bs} (h : ∀ x ∈ a, p x = true) (hc : p c = false) : takeW p (a ++ c :: r) = a := by
  unfold takeW
  rw [dropW_app h hc, List.length_append, Nat.add_sub_cancel, List.take_left']
  rfl
theorem dropW_all {p : UInt8 → Bool} {a : Bs} (h : ∀ x ∈ a, p x = true) : dropW p a = [] := by
  induction a with
  | nil => rfl
  | cons x a ih => simp [dropW, h x (by simp)]; exact ih fun y hy => h y (by simp [hy])
/-- What the bytes of a name are not. -/
def nmNot : Bs := [47, 62, 32, 9, 13, 10, 61, 60, 34, 38]
theorem nm1_not : ∀ c : UInt8, (nm1 true c || nm1 false c) = true → notIn nmNot c = true := by
  exact all_u8 (by decide +kernel)
theorem nmAll_not {f : Bool} {l : Bs} (h : nmAll f l = true) : ∀ c ∈ l, notIn nmNot c = true := by
  induction l generalizing f with
  | nil => intro c hc; cases hc
  | cons x l ih =>
    simp only [nmAll, Bool.and_eq_true] at h
    intro c hc
    rcases List.mem_cons.1 hc with rfl | hc
    · exact nm1_not _ (by cases f <;> simp [h.1])
    · exact ih h.2 c hc
theorem notIn_iff (t : Bs) (c : UInt8) : notIn t c = true ↔ c ∉ t := by unfold notIn; rw [hasB_iff]; simp
theorem notIn_sub {t u : Bs} (h : ∀ x ∈ u, x ∈ t) {c : UInt8} (hc : notIn t c = true) : notIn u c = true := by
  rw [notIn_iff] at *; exact fun hx => hc (h c hx)
theorem name_not {n : Bs} (h : nameB n = true) : (∀ c ∈ n, notIn nmNot c = true) ∧ n ≠ [] := by
  unfold nameB at h
  simp only [Bool.and_eq_true, decide_eq_true_eq] at h
  exact ⟨nmAll_not h.1.1, fun e => by rw [e] at h; simp at h⟩
theorem notIn_ne {t : Bs} {c x : UInt8} (h : notIn t c = true) (hx : x ∈ t) : c ≠ x := by
  rw [notIn_iff] at h; exact fun e => h (e ▸ hx)
theorem blank_not {c : UInt8} (h : notIn nmNot c = true) : blankB c = false := by
  rw [notIn_iff] at h
  unfold blankB; rw [hasB_iff]; simp
  simp [nmNot] at h
  exact ⟨h.2.2.1, h.2.2.2.1, h.2.2.2.2.1, h.2.2.2.2.2.1⟩
theorem trimR_id {l : Bs} (h : ∀ c ∈ l, blankB c = false) : trimR l = l := by
  unfold trimR
  cases hr : l.reverse with
  | nil => simpa [dropW] using hr.symm
  | cons c r =>
    have : blankB c = false := h c (by have : c ∈ l.reverse := by rw [hr]; simp
                                       simpa using this)
    rw [dropW]; simp [this]
    rw [← List.reverse_cons, ← hr]; simp
/-! ### Texts -/
theorem esc1_not (c x : UInt8) (h : x ∈ esc1 c) : x ≠ 60 ∧ x ≠ 62 ∧ x ≠ 34 := by
  unfold esc1 at h
  repeat' split at h
  all_goals simp at h
  all_goals first
    | (subst h; exact ⟨‹_›, ‹_›, ‹_›⟩)
    | (rcases h with rfl | rfl | rfl | rfl | rfl | rfl <;> decide)
    | (rcases h with rfl | rfl | rfl | rfl | rfl <;> decide)
    | (rcases h with rfl | rfl | rfl | rfl <;> decide)
theorem escB_not (l : Bs) : ∀ x ∈ escB l, x ≠ 60 ∧ x ≠ 62 ∧ x ≠ 34 := by
  induction l with
  | nil => intro x hx; cases hx
  | cons c l ih =>
    intro x hx
    rw [escB, List.mem_append] at hx
    rcases hx with hx | hx
    · exact esc1_not c x hx
    · exact ih x hx
theorem readB_esc (t : Bs) : readB (escB t) = some t := by
  induction t with
  | nil => simp [escB, readB]
  | cons c t ih =>
    rw [escB]; unfold esc1
    repeat' split
    · subst c; rw [List.cons_append, readB, if_pos rfl]; simp [fndE, entL, entC, ih]
    · subst c; rw [List.cons_append, readB, if_pos rfl]; simp [fndE, entL, entC, ih]
    · subst c; rw [List.cons_append, readB, if_pos rfl]; simp [fndE, entL, entC, ih]
    · subst c; rw [List.cons_append, readB, if_pos rfl]; simp [fndE, entL, entC, ih]
    · rename_i h _ _ _; rw [List.cons_append, List.nil_append, readB, if_neg h, ih]; rfl
/-! ### Attributes -/
theorem attrS_out {p : Par} (hn : nameB p.name = true) (hh : p.has = true) (r : Bs) : attrS (p.name ++ ([61, 34] ++ (escB p.value ++ [34])) ++ r) = some (p, r) := by
  obtain ⟨h1, h2⟩ := name_not hn
  have e : p.name ++ ([61, 34] ++ (escB p.value ++ [34])) ++ r = p.name ++ 61 :: (34 :: (escB p.value ++ 34 :: r)) := by simp
  rw [e]
  have k1 : ∀ x ∈ p.name, notIn [61] x = true := fun x hx => notIn_sub (by simp [nmNot]) (h1 x hx)
  have k2 : ∀ x ∈ escB p.value, notIn [34, 60] x = true := fun x hx => by
    have := escB_not _ x hx; rw [notIn_iff]; simp [this]
  unfold attrS
  rw [dropW_app k1 (by decide), takeW_app k1 (by decide)]
  simp only [show dropW blankB (34 :: (escB p.value ++ 34 :: r)) = 34 :: (escB p.value ++ 34 :: r) from rfl]
  rw [dropW_app k2 (by decide), takeW_app k2 (by decide), readB_esc, trimR_id fun c hc => blank_not (h1 c hc)]
  simp
  cases p; simp at hh; simp [hh]
def slash (c : UInt8) : Prop := c = 47 ∨ c = 62
theorem slash_blank {c : UInt8} (h : slash c) : blankB c = false := by rcases h with rfl | rfl <;> decide
theorem attrsS_out (ps : List Par) : ∀ (f : Nat) (acc : List Par) (c : UInt8) (r : Bs), slash c → ps.length < f → (∀ p ∈ ps, nameB p.name = true ∧ p.has = true) → attrsS f (attrsO ps ++ c :: r) acc = some (acc ++ ps, c :: r) := by
  induction ps with
  | nil =>
    intro f acc c r hc hf _
    obtain ⟨f, rfl⟩ : ∃ g, f = g + 1 := ⟨f - 1, by simp at hf; omega⟩
    rw [attrsO, List.nil_append, attrsS, dropW, if_neg (by simp [slash_blank hc])]
    have hc' : c = 47 ∨ c = 62 := hc
    simp [hc']
  | cons p ps ih =>
    intro f acc c r hc hf hp
    obtain ⟨f, rfl⟩ : ∃ g, f = g + 1 := ⟨f - 1, by simp at hf; omega⟩
    obtain ⟨hn, hh⟩ := hp p (by simp)
    obtain ⟨h1, h2⟩ := name_not hn
    obtain ⟨a, m, hm⟩ : ∃ a m, p.name = a :: m := by cases h : p.name with | nil => exact absurd h h2 | cons a m => exact ⟨a, m, rfl⟩
    have ha := h1 a (by rw [hm]; simp)
    have hout := attrS_out hn hh (attrsO ps ++ c :: r)
    have e : attrsO (p :: ps) ++ c :: r = 32 :: (p.name ++ ([61, 34] ++ (escB p.value ++ [34])) ++ (attrsO ps ++ c :: r)) := by simp [attrsO, attrO]
    rw [e]
    obtain ⟨Z, hZ⟩ : ∃ Z, p.name ++ ([61, 34] ++ (escB p.value ++ [34])) ++ (attrsO ps ++ c :: r) = a :: Z := ⟨_, by rw [hm]; rfl⟩
    rw [hZ] at hout ⊢
    rw [attrsS, show dropW blankB (32 :: a :: Z) = a :: Z from by rw [dropW, if_pos (by decide), dropW, if_neg (by simp [blank_not ha])]]
    have n1 : ¬ (a = 47 ∨ a = 62) := by
      rintro (h | h)
      · exact notIn_ne ha (by simp [nmNot]) h
      · exact notIn_ne ha (by simp [nmNot]) h
    simp only [n1, if_false, hout]
    rw [if_neg (by simp), ih f (acc ++ [p]) c r hc (by simp at hf; omega) fun q hq => hp q (by simp [hq])]
    simp
theorem attrsO_cnt (ps : List Par) : ps.length ≤ (attrsO ps).length := by
  induction ps with
  | nil => simp
  | cons p ps ih => simp [attrsO, attrO]; omega
theorem attrsA_ok {ps pre : List Par} (h : attrsA pre ps = true) : ∀ p ∈ ps, nameB p.name = true ∧ p.has = true := by
  induction ps generalizing pre with
  | nil => intro p hp; cases hp
  | cons q ps ih =>
    simp only [attrsA, Bool.and_eq_true, attrOK] at h
    intro p hp
    rcases List.mem_cons.1 hp with rfl | hp
    · exact ⟨h.1.1.1.1, h.1.1.1.2⟩
    · exact ih h.2 p hp
structure ElOK (n : Nod) : Prop where
  d : n.deep < 8
  nm : nameB n.name = true
  at_ : ∀ p ∈ n.attrs, nameB p.name = true ∧ p.has = true
  tr : trimB n.text = n.text
theorem ElOK.of {n : Nod} (h : elemOK n = true) : ElOK n := by
  unfold elemOK attrsB at h
  simp only [Bool.and_eq_true, decide_eq_true_eq] at h
  exact ⟨h.1.1.1.1, h.1.1.1.2, attrsA_ok h.1.1.2.2, h.2⟩
/-- The beginning of an element, up to / or >. -/
theorem open_out {n : Nod} (h : ElOK n) (f : Nat) (deep : Int) (cnt : Nat) (hd : deep = n.deep) (hc : cnt < 200) (c : UInt8) (r : Bs) (hs : slash c) :
    elemS (f + 1) (openB n ++ c :: r) deep cnt = (match pre2 47 62 (c :: r) with
            | some s4 => some ([⟨deep, n.name, n.attrs, []⟩], s4)
            | none =>
              match pre1 62 (c :: r) with
              | none => none
              | some s4 => contS f s4 ⟨deep, n.name, n.attrs, []⟩ cnt) := by
  obtain ⟨h1, h2⟩ := name_not h.nm
  have k1 : ∀ x ∈ n.name, notIn [47, 62, 32, 9, 13, 10] x = true := fun x hx => notIn_sub (by simp [nmNot]) (h1 x hx)
  obtain ⟨a, Z, hZ, ha⟩ : ∃ a Z, attrsO n.attrs ++ c :: r = a :: Z ∧ notIn [47, 62, 32, 9, 13, 10] a = false := by
    cases n.attrs with
    | nil => exact ⟨c, r, rfl, by rcases hs with rfl | rfl <;> decide⟩
    | cons p ps => exact ⟨32, _, rfl, by decide⟩
  have hat := attrsS_out n.attrs ((n.name ++ a :: Z).length + 1) [] c r hs (by rw [← hZ]; have := attrsO_cnt n.attrs; simp; omega) h.at_
  have hd' : ¬ (8 ≤ deep ∨ 200 ≤ cnt) := by have := h.d; omega
  rw [openB, List.cons_append, List.append_assoc, elemS, if_neg hd', pre1, if_pos rfl]
  simp only []
  rw [hZ, dropW_app k1 ha, takeW_app k1 ha]
  simp only []
  rw [hZ] at hat
  rw [hat]
  simp only [List.nil_append]
  cases pre2 47 62 (c :: r) with
  | some s4 => rfl
  | none => cases pre1 62 (c :: r) <;> rfl
/-! ### Elements, with blanks between them -/
def blank (b : Bs) : Prop := ∀ c ∈ b, blankB c = true
/-- A writing: of an element and what is in it; or of elements side by side. -/
inductive Wr : Bool → Int → List Nod → Bs → Prop
  | leaf (n : Nod) (h : n.text = []) : Wr true n.deep [n] (openB n ++ 47 :: 62 :: [])
  | text (n : Nod) (h : n.text ≠ []) : Wr true n.deep [n] (openB n ++ 62 :: (escB n.text ++ closeB n.name))
  | kids (n : Nod) (ms : List Nod) (s : Bs) (h : n.text = []) (hk : Wr false (n.deep + 1) ms s) : Wr true n.deep (n :: ms) (openB n ++ 62 :: (s ++ closeB n.name))
  | nil (d : Int) (b : Bs) (hb : blank b) : Wr false d [] b
  | cons (d : Int) (b s1 s2 : Bs) (m1 m2 : List Nod) (hb : blank b) (h1 : Wr true d m1 s1) (h2 : Wr false d m2 s2) : Wr false d (m1 ++ m2) (b ++ (s1 ++ s2))
def Rdd (k : Bool) (d : Int) (ms : List Nod) (s : Bs) : Prop := (∀ m ∈ ms, ElOK m) →
  match k with
  | true => ∀ f cnt rest, s.length ≤ f → cnt + ms.length ≤ 200 → elemS f (s ++ rest) d cnt = some (ms, rest)
  | false => ∀ f cnt rest text kids, s.length + 1 ≤ f → cnt + ms.length ≤ 200 → ∃ b, blank b ∧ kidsS f (s ++ 60 :: 47 :: rest) text d cnt kids = some (text ++ b, kids ++ ms, 60 :: 47 :: rest)
theorem blank_not60 {b : Bs} (h : blank b) : ∀ c ∈ b, notIn [60] c = true := by
  intro c hc
  exact all_u8 (p := fun c => blankB c = true → notIn [60] c = true) (by decide +kernel) c (h c hc)
theorem dropW_id {p : UInt8 → Bool} {l : Bs} (h : (dropW p l).length = l.length) : dropW p l = l := by
  cases l with
  | nil => rfl
  | cons c l =>
    rw [dropW] at h ⊢
    split
    · rename_i hc; rw [if_pos hc] at h; have := dropW_len p l; simp at h; omega
    · rfl
theorem trim_parts {l : Bs} (h : trimB l = l) : dropW blankB l = l ∧ dropW blankB l.reverse = l.reverse := by
  unfold trimB trimR at h
  have e := congrArg List.length h
  rw [List.length_reverse] at e
  have a1 := dropW_len blankB (dropW blankB l).reverse
  have a2 := dropW_len blankB l
  rw [List.length_reverse] at a1
  have e1 := dropW_id (p := blankB) (l := l) (by omega)
  refine ⟨e1, dropW_id ?_⟩
  rw [e1] at e
  rw [e]; simp
theorem dropW_esc {l : Bs} (h : dropW blankB l = l) : dropW blankB (escB l) = escB l := by
  cases l with
  | nil => rfl
  | cons c l =>
    have hc : blankB c = false := dropW_head h
    rw [escB]; unfold esc1
    repeat' split
    all_goals simp [dropW, hc, show blankB 38 = false from by decide]
theorem dropW_esc_rev {l : Bs} (h : dropW blankB l.reverse = l.reverse) : dropW blankB (escB l).reverse = (escB l).reverse := by
  rcases List.eq_nil_or_concat l with rfl | ⟨l', c, rfl⟩
  · rfl
  · rw [List.concat_eq_append] at *
    rw [List.reverse_append] at h
    simp only [List.reverse_cons, List.reverse_nil, List.nil_append, List.cons_append] at h
    have hc : blankB c = false := dropW_head h
    rw [escB_app, List.reverse_append]
    have e : escB [c] = esc1 c := by simp [escB]
    rw [e]; unfold esc1
    repeat' split
    all_goals simp [dropW, hc, show blankB 59 = false from by decide]
theorem trim_esc {l : Bs} (h : trimB l = l) : trimB (escB l) = escB l := by
  obtain ⟨h1, h2⟩ := trim_parts h
  unfold trimB trimR
  rw [dropW_esc h1, dropW_esc_rev h2, List.reverse_reverse]
theorem trim_blank {b : Bs} (h : blank b) : trimB b = [] := by
  unfold trimB; rw [dropW_all h]; rfl
theorem close_take (n : Bs) (r : Bs) : (closeB n ++ r).take (2 + n.length) = 60 :: 47 :: n ∧ (closeB n ++ r).drop (2 + n.length) = 62 :: r := by
  unfold closeB
  rw [Nat.add_comm]
  simp
theorem closeS_out (n : Nod) (text t : Bs) (kids : List Nod) (rest : Bs) (h : readB (trimB text) = some t) : closeS n text kids (closeB n.name ++ rest) = some ({ n with text := trimB t } :: kids, rest) := by
  unfold closeS
  obtain ⟨h1, h2⟩ := close_take n.name rest
  rw [if_pos h1, h2, h]
  rfl
theorem closeB_cons (n : Bs) (r : Bs) : closeB n ++ r = 60 :: 47 :: (n ++ 62 :: r) := by simp [closeB]
theorem wr_read {k : Bool} {d : Int} {ms : List Nod} {s : Bs} (h : Wr k d ms s) : Rdd k d ms s := by
  induction h with
  | leaf n h =>
    intro hok f cnt rest hf hc
    obtain ⟨f, rfl⟩ : ∃ g, f = g + 1 := ⟨f - 1, by simp at hf; omega⟩
    rw [List.append_assoc]
    rw [show (47 :: 62 :: [] ++ rest : Bs) = 47 :: 62 :: rest from rfl]
    rw [open_out (hok n (by simp)) f n.deep cnt rfl (by simp at hc; omega) 47 (62 :: rest) (.inl rfl)]
    simp [pre2]
    cases n; simp at h; subst h; rfl
  | text n h =>
    intro hok f cnt rest hf hc
    have ho := hok n (by simp)
    have hcl : (closeB n.name).length = n.name.length + 3 := by simp [closeB]
    have hop : 1 ≤ (openB n).length := by simp [openB]
    obtain ⟨f, rfl⟩ : ∃ g, f = g + 3 := ⟨f - 3, by simp at hf; omega⟩
    rw [List.append_assoc, List.cons_append, List.append_assoc]
    rw [open_out ho (f + 2) n.deep cnt rfl (by simp at hc; omega) 62 _ (.inr rfl)]
    have e1 : pre2 47 62 (62 :: (escB n.text ++ (closeB n.name ++ rest))) = none := by
      unfold pre2; split
      · rename_i c d r he; injection he with he; subst he; rw [if_neg (by rintro ⟨h, -⟩; exact absurd h (by decide))]
      · rfl
    rw [e1, pre1, if_pos rfl]
    simp only []
    rw [contS, kidsS]
    have k1 : ∀ x ∈ escB n.text, notIn [60] x = true := fun x hx => by rw [notIn_iff]; simp [(escB_not _ x hx).1]
    rw [closeB_cons, dropW_app k1 (by decide), takeW_app k1 (by decide)]
    simp only [pre2, and_self, if_true, List.nil_append]
    rw [← closeB_cons]
    have := closeS_out ⟨n.deep, n.name, n.attrs, []⟩ (escB n.text) n.text [] rest (by rw [trim_esc ho.tr]; exact readB_esc _)
    rw [ho.tr] at this
    exact this
  | kids n ms s h hk ih =>
    intro hok f cnt rest hf hc
    have ho := hok n (by simp)
    have hcl : (closeB n.name).length = n.name.length + 3 := by simp [closeB]
    have hop : 1 ≤ (openB n).length := by simp [openB]
    obtain ⟨f, rfl⟩ : ∃ g, f = g + 2 := ⟨f - 2, by simp at hf; omega⟩
    rw [List.append_assoc, List.cons_append, List.append_assoc]
    rw [open_out ho (f + 1) n.deep cnt rfl (by simp at hc; omega) 62 _ (.inr rfl)]
    have e1 : pre2 47 62 (62 :: (s ++ (closeB n.name ++ rest))) = none := by
      unfold pre2; split
      · rename_i c d r he; injection he with he; subst he; rw [if_neg (by rintro ⟨h, -⟩; exact absurd h (by decide))]
      · rfl
    rw [e1, pre1, if_pos rfl]
    simp only []
    rw [contS]
    obtain ⟨b, hb, he⟩ := ih (fun m hm => hok m (by simp [hm])) f (cnt + 1) (n.name ++ 62 :: rest) [] [] (by simp at hf; omega) (by simp at hc; omega)
    rw [closeB_cons, he]
    simp only [List.nil_append]
    rw [← closeB_cons]
    have := closeS_out ⟨n.deep, n.name, n.attrs, []⟩ b [] ms rest (by rw [trim_blank hb]; simp [readB])
    rw [this]
    cases n; simp at h; subst h; rfl
  | nil d b hb =>
    intro hok f cnt rest text kids hf hc
    obtain ⟨f, rfl⟩ : ∃ g, f = g + 1 := ⟨f - 1, by omega⟩
    refine ⟨b, hb, ?_⟩
    rw [kidsS, dropW_app (blank_not60 hb) (by decide), takeW_app (blank_not60 hb) (by decide)]
    simp [pre2]
  | cons d b s1 s2 m1 m2 hb h1 h2 ih1 ih2 =>
    intro hok f cnt rest text kids hf hc
    obtain ⟨f, rfl⟩ : ∃ g, f = g + 1 := ⟨f - 1, by omega⟩
    obtain ⟨y, Z, hZ, hy⟩ : ∃ y Z, s1 = 60 :: y :: Z ∧ y ≠ 47 := by
      have hx : ∀ n : Nod, ElOK n → ∀ (c : UInt8) (r : Bs), ∃ y Z, openB n ++ c :: r = 60 :: y :: Z ∧ y ≠ 47 := by
        intro n ho c r
        obtain ⟨g1, g2⟩ := name_not ho.nm
        obtain ⟨a, m, hm⟩ : ∃ a m, n.name = a :: m := by cases h : n.name with | nil => exact absurd h g2 | cons a m => exact ⟨a, m, rfl⟩
        exact ⟨a, _, by rw [openB, hm]; rfl, notIn_ne (g1 a (by rw [hm]; simp)) (by simp [nmNot])⟩
      generalize hk : true = k at h1
      cases h1 with
      | leaf n h => exact hx n (hok n (by simp)) _ _
      | text n h => exact hx n (hok n (by simp)) _ _
      | kids n ms s h hk => exact hx n (hok n (by simp)) _ _
      | nil => cases hk
      | cons => cases hk
    have hl1 : 2 ≤ s1.length := by rw [hZ]; simp
    simp only [List.length_append] at hf hc
    have g1 := ih1 (fun m hm => hok m (by simp [hm])) f cnt (s2 ++ 60 :: 47 :: rest) (by omega) (by omega)
    obtain ⟨b2, hb2, g2⟩ := ih2 (fun m hm => hok m (by simp [hm])) f (cnt + m1.length) rest (text ++ b) (kids ++ m1) (by omega) (by omega)
    refine ⟨b ++ b2, fun c hcc => by rcases List.mem_append.1 hcc with hcc | hcc; exact hb c hcc; exact hb2 c hcc, ?_⟩
    rw [List.append_assoc, List.append_assoc]
    have e : s1 ++ (s2 ++ 60 :: 47 :: rest) = 60 :: (y :: Z ++ (s2 ++ 60 :: 47 :: rest)) := by rw [hZ]; rfl
    rw [kidsS, e, dropW_app (blank_not60 hb) (by decide), takeW_app (blank_not60 hb) (by decide)]
    rw [e] at g1
    rw [List.cons_append] at g1 ⊢
    simp only [pre2, hy, and_false, if_false, g1]
    rw [g2]
    simp
/-! ### Blanks laid between tags -/
def insB (β : Nat → Bs) : Nat → UInt8 → Bs → Bs
  | _, _, [] => []
  | k, p, c :: l => if c = 60 ∧ p = 62 then β k ++ c :: insB β (k + 1) c l else c :: insB β k c l
theorem insB_skip (β : Nat → Bs) (k : Nat) (a r : Bs) : ∀ (p : UInt8), (∀ c ∈ a, c ≠ 60) → ∃ q, insB β k p (a ++ r) = a ++ insB β k q r ∧ (a = [] → q = p) ∧ (a ≠ [] → q ∈ a) := by
  induction a with
  | nil => exact fun p _ => ⟨p, rfl, fun _ => rfl, fun h => absurd rfl h⟩
  | cons x a ih =>
    intro p h
    obtain ⟨q, h1, h2, h3⟩ := ih x fun c hc => h c (by simp [hc])
    refine ⟨q, ?_, (fun h => by cases h), fun _ => ?_⟩
    · rw [List.cons_append, insB, if_neg (by simp [h x (by simp)]), h1]; rfl
    · by_cases ha : a = []
      · simp [h2 ha]
      · simp [h3 ha]
theorem attrsO_not (ps : List Par) (h : ∀ p ∈ ps, nameB p.name = true ∧ p.has = true) : ∀ c ∈ attrsO ps, c ≠ 60 ∧ c ≠ 62 := by
  induction ps with
  | nil => intro c hc; cases hc
  | cons p ps ih =>
    intro c hc
    simp [attrsO, attrO] at hc
    obtain ⟨g, -⟩ := name_not (h p (by simp)).1
    rcases hc with rfl | hc | rfl | rfl | hc | rfl | hc
    · decide
    · exact ⟨notIn_ne (g c hc) (by simp [nmNot]), notIn_ne (g c hc) (by simp [nmNot])⟩
    · decide
    · decide
    · exact ⟨(escB_not _ c hc).1, (escB_not _ c hc).2.1⟩
    · decide
    · exact ih (fun q hq => h q (by simp [hq])) c hc
/-- At an element's beginning: blanks perhaps, then all up to / or >. -/
theorem insB_open (β : Nat → Bs) (hβ : ∀ k, blank (β k)) (n : Nod) (h : ElOK n) (k : Nat) (p c : UInt8) (hc : c ≠ 60) (r : Bs) : ∃ b k', blank b ∧ insB β k p (openB n ++ c :: r) = b ++ (openB n ++ c :: insB β k' c r) := by
  have hnot : ∀ x ∈ n.name ++ attrsO n.attrs, x ≠ 60 := by
    intro x hx
    obtain ⟨g, -⟩ := name_not h.nm
    rcases List.mem_append.1 hx with hx | hx
    · exact notIn_ne (g x hx) (by simp [nmNot])
    · exact (attrsO_not _ h.at_ x hx).1
  rw [openB]
  by_cases hp : p = 62
  · obtain ⟨q, h1, -⟩ := insB_skip β (k + 1) (n.name ++ attrsO n.attrs) (c :: r) 60 hnot
    refine ⟨β k, k + 1, hβ k, ?_⟩
    rw [List.cons_append, insB, if_pos ⟨rfl, hp⟩, h1, insB, if_neg (by simp [hc])]; simp
  · obtain ⟨q, h1, -⟩ := insB_skip β k (n.name ++ attrsO n.attrs) (c :: r) 60 hnot
    refine ⟨[], k, (fun c hc => by cases hc), ?_⟩
    rw [List.cons_append, insB, if_neg (by simp [hp]), h1, insB, if_neg (by simp [hc])]; simp
/-- At an element's end. -/
theorem insB_close (β : Nat → Bs) (hβ : ∀ k, blank (β k)) (n : Bs) (h : nameB n = true) (k : Nat) (p : UInt8) (r : Bs) : ∃ b k', blank b ∧ insB β k p (closeB n ++ r) = b ++ (closeB n ++ insB β k' 62 r) ∧ (p ≠ 62 → b = []) := by
  have hnot : ∀ x ∈ 47 :: n, x ≠ 60 := by
    intro x hx
    obtain ⟨g, -⟩ := name_not h
    rcases List.mem_cons.1 hx with rfl | hx
    · decide
    · exact notIn_ne (g x hx) (by simp [nmNot])
  have e : closeB n ++ r = 60 :: ((47 :: n) ++ 62 :: r) := by simp [closeB]
  rw [e]
  by_cases hp : p = 62
  · obtain ⟨q, h1, -⟩ := insB_skip β (k + 1) (47 :: n) (62 :: r) 60 hnot
    refine ⟨β k, k + 1, hβ k, ?_, fun h => absurd hp h⟩
    rw [insB, if_pos ⟨rfl, hp⟩, h1, insB, if_neg (by rintro ⟨h, -⟩; exact absurd h (by decide))]; simp [closeB]
  · obtain ⟨q, h1, -⟩ := insB_skip β k (47 :: n) (62 :: r) 60 hnot
    refine ⟨[], k, (fun c hc => by cases hc), ?_, fun _ => rfl⟩
    rw [insB, if_neg (by simp [hp]), h1, insB, if_neg (by rintro ⟨h, -⟩; exact absurd h (by decide))]; simp [closeB]
theorem openB_not (n : Nod) (l : Bs) : openB n ++ l ≠ [] := by simp [openB]
theorem wrK_acc (f : Nat) : ∀ (d : Int) (l : List Nod) (acc : Bs), wrK f d l acc = (acc ++ (wrK f d l []).1, (wrK f d l []).2) := by
  induction f with
  | zero => intro d l acc; simp [wrK]
  | succ f ih =>
    intro d l acc
    cases l with
    | nil => simp [wrK]
    | cons m l =>
      rw [wrK, wrK]
      split
      · rw [ih d _ (acc ++ _), ih d _ ([] ++ _)]; simp
      · simp
theorem wr_ins (β : Nat → Bs) (hβ : ∀ k, blank (β k)) (f : Nat) :
    (∀ n l, 2 * (l.length + 1) ≤ f → okC (n :: l) → (∀ m ∈ n :: l, ElOK m) → ∃ ms, n :: l = ms ++ (wrE f (n :: l)).2 ∧ hdLe n.deep (wrE f (n :: l)).2 ∧ ∀ k p r, ∃ b s k', blank b ∧ Wr true n.deep ms s ∧ insB β k p ((wrE f (n :: l)).1 ++ r) = b ++ (s ++ insB β k' 62 r)) ∧
    (∀ d l, 2 * l.length + 1 ≤ f → okC l → 0 ≤ d → hdLe (d + 1) l → (∀ m ∈ l, ElOK m) → ∃ ms X, l = ms ++ (wrK f d l []).2 ∧ (wrK f d l []).1 = X ∧ hdLe d (wrK f d l []).2 ∧ (ms = [] → X = [] ∧ (wrK f d l []).2 = l) ∧ (ms ≠ [] → X ≠ []) ∧ ∀ k r n, nameB n = true → ∃ s k', Wr false (d + 1) ms s ∧ insB β k 62 (X ++ (closeB n ++ r)) = s ++ (closeB n ++ insB β k' 62 r)) := by
  induction f with
  | zero => exact ⟨fun n l h => by omega, fun d l h => by omega⟩
  | succ f ih =>
    refine ⟨fun n l hf hok hel => ?_, fun d l hf hok hd hh hel => ?_⟩
    · rw [wrE]
      have ho := hel n (by simp)
      by_cases ht : n.text = []
      · obtain ⟨ms, X, e1, e2, e3, e4, e5, e6⟩ := ih.2 n.deep l (by omega) hok.2.2 hok.1 (fun m r e => (hok.2.1 m r e).1) (fun m hm => hel m (by simp [hm]))
        rw [ht, show escB [] = [] from rfl, e2]
        refine ⟨n :: ms, by rw [List.cons_append, ← e1], e3, fun k p r => ?_⟩
        by_cases hm : ms = []
        · obtain ⟨hX, -⟩ := e4 hm
          subst hm
          obtain ⟨b, k', hb, he⟩ := insB_open β hβ n ho k p 47 (by decide) (62 :: r)
          refine ⟨b, openB n ++ 47 :: 62 :: [], k', hb, .leaf n ht, ?_⟩
          rw [fin1, if_pos hX]
          rw [List.append_assoc, show ([47, 62] ++ r : Bs) = 47 :: 62 :: r from rfl, he, insB, if_neg (by rintro ⟨h, -⟩; exact absurd h (by decide))]; simp
        · have hX := e5 hm
          obtain ⟨b, k1, hb, he⟩ := insB_open β hβ n ho k p 62 (by decide) (X ++ (closeB n.name ++ r))
          obtain ⟨s, k2, hw, hs⟩ := e6 k1 r n.name ho.nm
          refine ⟨b, openB n ++ 62 :: (s ++ closeB n.name), k2, hb, .kids n ms s ht hw, ?_⟩
          have e : fin1 n X ++ r = openB n ++ 62 :: (X ++ (closeB n.name ++ r)) := by rw [fin1, if_neg hX]; simp [closeB]
          rw [e, he, hs]; simp
      · have hk : wrK f n.deep l (escB n.text) = (escB n.text, l) := by
          obtain ⟨f, rfl⟩ : ∃ g, f = g + 1 := ⟨f - 1, by omega⟩
          cases l with
          | nil => rw [wrK]
          | cons m r => rw [wrK, if_neg fun hlt => ht ((hok.2.1 m r rfl).2 hlt)]
        rw [hk]
        refine ⟨[n], rfl, fun m r e => ?_, fun k p r => ?_⟩
        · have := (hok.2.1 m r e).2
          exact Int.not_lt.1 fun hlt => ht (this hlt)
        · have hne : escB n.text ≠ [] := escB_ne ht
          obtain ⟨b, k1, hb, he⟩ := insB_open β hβ n ho k p 62 (by decide) (escB n.text ++ (closeB n.name ++ r))
          obtain ⟨q, h1, -, h3⟩ := insB_skip β k1 (escB n.text) (closeB n.name ++ r) 62 (fun c hc => (escB_not _ c hc).1)
          obtain ⟨b2, k2, -, h4, h5⟩ := insB_close β hβ n.name ho.nm k1 q r
          have hb2 := h5 (escB_not _ q (h3 hne)).2.1
          refine ⟨b, openB n ++ 62 :: (escB n.text ++ closeB n.name), k2, hb, .text n ht, ?_⟩
          have e : fin1 n (escB n.text) ++ r = openB n ++ 62 :: (escB n.text ++ (closeB n.name ++ r)) := by rw [fin1, if_neg hne]; simp [closeB]
          rw [e, he, h1, h4, hb2]; simp
    · have hnil : ∀ (k : Nat) (r n : Bs), nameB n = true → ∃ s k', Wr false (d + 1) [] s ∧ insB β k 62 ([] ++ (closeB n ++ r)) = s ++ (closeB n ++ insB β k' 62 r) := fun k r n hn => by
        obtain ⟨b, k', hb, he, -⟩ := insB_close β hβ n hn k 62 r
        exact ⟨b, k', .nil _ b hb, by rw [List.nil_append, he]⟩
      cases l with
      | nil =>
        rw [wrK]
        exact ⟨[], [], rfl, rfl, (fun m r e => by cases e), fun _ => ⟨rfl, rfl⟩, fun h => absurd rfl h, hnil⟩
      | cons m l =>
        rw [wrK]
        have hm0 : 0 ≤ m.deep := hok.1
        by_cases hlt : d < m.deep
        · rw [if_pos hlt]
          have hmd : m.deep = d + 1 := by have := hh m l rfl; omega
          obtain ⟨m1, a1, a2, a3⟩ := ih.1 m l (by simp at hf; omega) hok hel
          have hsuf : (wrE f (m :: l)).2 <:+ l := by
            obtain ⟨f', rfl⟩ : ∃ f', f = f' + 1 := ⟨f - 1, by simp at hf; omega⟩
            exact wrE_rest f' m l
          have hl := hsuf.length_le
          obtain ⟨m2, X, e1, e2, e3, e4, e5, e6⟩ := ih.2 d (wrE f (m :: l)).2 (by simp at hf; omega) (okC_suffix hok.2.2 hsuf) hd (fun m' r' e => by have := a2 m' r' e; omega) (fun x hx => hel x (by simp [hsuf.subset hx]))
          rw [wrK_acc, List.nil_append]
          have hm1 : m1 ≠ [] := fun e => by
            rw [e, List.nil_append] at a1
            rw [← a1] at hl; simp at hl; omega
          refine ⟨m1 ++ m2, (wrE f (m :: l)).1 ++ X, ?_, by rw [e2], e3, fun h => absurd (List.append_eq_nil_iff.1 h).1 hm1, fun _ h => ?_, fun k r n hn => ?_⟩
          · rw [List.append_assoc, ← e1]; exact a1
          · have h := (List.append_eq_nil_iff.1 h).1
            obtain ⟨f', rfl⟩ : ∃ f', f = f' + 1 := ⟨f - 1, by simp at hf; omega⟩
            rw [wrE] at h
            exact fin1_ne _ _ h
          · obtain ⟨b, s1, k1, hb, hw1, he1⟩ := a3 k 62 (X ++ (closeB n ++ r))
            obtain ⟨s2, k2, hw2, he2⟩ := e6 k1 r n hn
            rw [hmd] at hw1
            refine ⟨b ++ (s1 ++ s2), k2, .cons _ b s1 s2 m1 m2 hb hw1 hw2, ?_⟩
            rw [List.append_assoc, he1, he2]; simp
        · rw [if_neg hlt]
          exact ⟨[], [], rfl, rfl, (fun m' r' e => by cases e; omega), fun _ => ⟨rfl, rfl⟩, fun h => absurd rfl h, hnil⟩
theorem wr_head {k : Bool} {d : Int} {ms : List Nod} {s : Bs} (h : Wr k d ms s) (hk : k = true) : ∃ Z, s = 60 :: Z := by
  cases h with
  | leaf n h => exact ⟨_, rfl⟩
  | text n h => exact ⟨_, rfl⟩
  | kids n ms s h hk => exact ⟨_, rfl⟩
  | nil => cases hk
  | cons => cases hk
theorem prolog_out (r : Bs) : prologS (prologB ++ r) = some (10 :: r) := by
  simp [prologS, prologB, pre5, dropW, notIn, hasB, pre2]
theorem chain_el {l : List Nod} (h : chainB l = true) : ∀ m ∈ l, elemOK m = true := by
  induction l with
  | nil => intro m hm; cases hm
  | cons a l ih =>
    have hc : elemOK a = true ∧ chainB l = true := by
      cases l with
      | nil => exact ⟨by simpa [chainB] using h, rfl⟩
      | cons b l => simp only [chainB, Bool.and_eq_true] at h; exact ⟨h.1, h.2.2.2⟩
    intro m hm
    rcases List.mem_cons.1 hm with rfl | hm
    · exact hc.1
    · exact ih hc.2 m hm
/-- What is printed, with blanks between its tags and behind it, is read as it was. -/
theorem doc_back (l : List Nod) (h : checkB l = true) (β : Nat → Bs) (hβ : ∀ k, blank (β k)) (tail : Bs) (ht : blank tail) (hlen : (insB β 0 0 (prB l) ++ tail).length ≤ 4096) : docS (insB β 0 0 (prB l) ++ tail) = some l := by
  have hck := h
  unfold checkB at h
  simp only [Bool.and_eq_true, decide_eq_true_eq] at h
  obtain ⟨⟨⟨h1, h2⟩, h3⟩, h4⟩ := h
  cases l with
  | nil => simp at h1
  | cons n l =>
    simp at h3
    have hok : okC (n :: l) := okC_of h4 fun m r e => by cases e; omega
    have hel : ∀ m ∈ n :: l, ElOK m := fun m hm => .of (chain_el h4 m hm)
    obtain ⟨ms, e1, e2, e3⟩ := (wr_ins β hβ (2 * (n :: l).length + 1)).1 n l (by simp) hok hel
    have hsuf := wrE_rest (2 * (n :: l).length) n l
    have hr : (wrE (2 * (n :: l).length + 1) (n :: l)).2 = [] := by
      cases hx : (wrE (2 * (n :: l).length + 1) (n :: l)).2 with
      | nil => rfl
      | cons m r =>
        have g1 := e2 m r hx
        rw [hx] at hsuf
        have g2 := chain_deep h4 m (hsuf.subset (List.mem_cons_self ..))
        omega
    rw [hr, List.append_nil] at e1
    subst e1
    have ep : prologB = 60 :: prologB.tail := rfl
    obtain ⟨q, g1, -⟩ := insB_skip β 0 prologB.tail ((wrE (2 * (n :: l).length + 1) (n :: l)).1 ++ []) 60 (by decide)
    obtain ⟨b, s, k', hb, hw, he⟩ := e3 0 q []
    have hall : insB β 0 0 (prB (n :: l)) = prologB ++ (b ++ s) := by
      rw [prB, ← List.append_nil (wrE _ _).1, ep, List.cons_append, insB, if_neg (by rintro ⟨-, h⟩; exact absurd h (by decide)), g1, he]
      simp [insB]
    rw [hall] at hlen ⊢
    obtain ⟨Z, hZ⟩ := wr_head hw rfl
    have hdr : dropW blankB (10 :: (b ++ s ++ tail)) = s ++ tail := by
      have := dropW_app (p := blankB) (a := 10 :: b) (c := 60) (r := Z ++ tail) (fun x hx => by
        rcases List.mem_cons.1 hx with rfl | hx
        · decide
        · exact hb x hx) (by decide)
      rw [hZ]; simpa using this
    have hread := wr_read hw hel 9000 0 tail (by simp only [List.length_append] at hlen; omega) (by omega)
    rw [h3] at hread
    rw [docS, List.append_assoc, prolog_out]
    simp only []
    rw [hdr, hread]
    simp only []
    rw [if_pos ⟨dropW_all ht, hck⟩]
theorem insB_id (k : Nat) (p : UInt8) (l : Bs) : insB (fun _ => []) k p l = l := by
  induction l generalizing k p with
  | nil => rfl
  | cons c l ih => rw [insB]; split <;> simp [ih]
theorem doc_back0 (l : List Nod) (h : checkB l = true) (hlen : (prB l).length ≤ 4096) : docS (prB l) = some l := by
  have := doc_back l h (fun _ => []) (fun _ c hc => by cases hc) [] (fun c hc => by cases hc) (by rw [insB_id]; simpa using hlen)
  rwa [insB_id, List.append_nil] at this
end Go.Proofs.YtffcapkjfmkkaaaGreatDoor
