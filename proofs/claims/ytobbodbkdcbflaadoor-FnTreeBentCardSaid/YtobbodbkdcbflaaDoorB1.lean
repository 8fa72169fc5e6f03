/- Plain mathematics of paths: names, cutting at strokes, parents, descent, moves. No program in sight. Small lemmas for the walks: strings as lists of bytes, endings, worlds. Worlds in which only one block, and what is new, has turned. The walks of the reader of drawn bytes: l10Open, pick, of. The walks of what draws texts: of, l1Path, l1Text. The walks of the functions that look at one text: names and data. The library's contracts at this translation, laid in plain words by the kit's own tool; those that are wanted. The walks of what cuts a text into pieces: the library's Split and Join, the reference's cut. The walk of the reference's cut of a text at its strokes. The walks of impl.pathNames and of what asks it. The walks of impl.PathUp and impl.PathName. The walks of impl.PathJoin, impl.PathUnder, impl.PathMove. The walk of impl.PathMove. The walks of the reference's functions of paths: names, PathOk, PathLevels, l1Slash, PathUp, PathName. The walks of the reference's PathUp, PathName, PathJoin, l1Under, PathUnder. The walks of the reference's PathJoin, PathUnder, PathMove. Entries and marks as the walks meet them: their cells, slices of them. The walks of what turns the laws' own structs into the program's, and of what holds lists against one another. The walks of what holds two lists against one another. Plain laws of paths: what the statements of chapter 1 ask. No program in sight. Plain laws of paths: the order of bytes, moves. No program in sight. Plain mathematics of trees: lookups, right trees. No program in sight. The walks of entAt and upCode. Conditions: each theorem's own. -/
import GoSem.Op.String
import Derived.Test.YtobbodbkdcbflaaDoorProg
import Derived.WalkKit
import Derived.Lib.Hide
import Derived.WalkSpells
import Derived.WalkLawsBesides
import Derived.Laws.OwnMore
import Derived.Deep.QuietTactic
import Derived.BigQuiet
import Derived.Laws.BitsLemmas
import Derived.Laws.BitsAllLaws
import Derived.Shelf.Strings.Builder1
import Derived.Shelf.Strings.Builder2
import Derived.Shelf.Strings.OnBuilder
import Derived.Shelf.Strings.Search1
import Derived.Shelf.Strings.Search2
import Derived.Shelf.Strings.Search3
import Derived.Shelf.Strings.Count
import Derived.Shelf.LaysM
import Derived.Shelf.Strings.Shaped
import Derived.Shelf.Strings.Prefix
import Derived.Shelf.Strings.Split
import Derived.Shelf.Strings.SplitShaped
import Derived.Shelf.Unicode.DecodeSlow
import Derived.Lib.SplitLaws
import Derived.Shelf.Strings.SplitCore
import Derived.Laws.MakeOwn
import Derived.Deep.RegionHeld3
namespace Go.Proofs.YtobbodbkdcbflaaDoor
abbrev Bs := List UInt8
def isLo (c : UInt8) : Bool := decide (97 ≤ c.toNat) && decide (c.toNat ≤ 122)
def nameOkL (l : Bs) : Bool := decide (1 ≤ l.length) && decide (l.length ≤ 3) && l.all isLo
def isData (c : UInt8) : Bool := isLo c || (decide (48 ≤ c.toNat) && decide (c.toNat ≤ 57))
def dataOkL (l : Bs) : Bool := decide (l.length ≤ 6) && l.all isData
def cutL : Bs → List Bs
  | [] => [[]]
  | x :: r => if x = 47 then [] :: cutL r else match cutL r with
    | [] => [[x]]
    | p :: ps => (x :: p) :: ps
def flat : List Bs → Bs
  | [] => []
  | n :: r => 47 :: (n ++ flat r)
def pathOkL (l : Bs) : Bool := decide (l.length ≤ 12) && (l.head? == some 47) && decide ((cutL l.tail).length ≤ 3) && (cutL l.tail).all nameOkL
/-- The path of names; the root, if there are none. -/
def encP (ns : List Bs) : Bs := if ns = [] then [47] else flat ns
def levelsL (l : Bs) : Nat := if pathOkL l then (cutL l.tail).length else 0
def nameL (l : Bs) : Bs := if pathOkL l then ((cutL l.tail).getLast?).getD [] else []
def upL (l : Bs) : Bs := if pathOkL l then encP (cutL l.tail).dropLast else []
def joinOkL (d n : Bs) : Bool := nameOkL n && (d == [47] || (pathOkL d && decide (levelsL d < 3)))
def joinL (d n : Bs) : Bs := if joinOkL d n then (if d = [47] then 47 :: n else d ++ 47 :: n) else []
def underL (s d : Bs) : Bool := pathOkL s && (d == [47] || (pathOkL d && (d ++ [47]).isPrefixOf s))
def moved (s f t : Bs) : Bs := if s = f ∨ underL s f = true then t ++ s.drop f.length else s
def moveOkL (s f t : Bs) : Bool := pathOkL s && pathOkL f && pathOkL t && pathOkL (moved s f t)
def moveL (s f t : Bs) : Bs := if moveOkL s f t then moved s f t else []

def opOkL (k : Int) (p t d : Bs) : Bool :=
  pathOkL p && (if k = 5 then pathOkL t && d == [] else if k = 2 then t == [] && dataOkL d else if k = 1 ∨ k = 3 ∨ k = 4 then t == [] && d == [] else false)

/-- Right names: at most three, each a name. -/
def NS (ns : List Bs) : Prop := ns.length ≤ 3 ∧ ∀ n ∈ ns, nameOkL n = true

theorem nameOkL_iff (l : Bs) : nameOkL l = true ↔ 1 ≤ l.length ∧ l.length ≤ 3 ∧ l.all isLo = true := by
  simp [nameOkL, and_assoc]
theorem dataOkL_iff (l : Bs) : dataOkL l = true ↔ l.length ≤ 6 ∧ l.all isData = true := by
  simp [dataOkL]
theorem name_no47 {n : Bs} (h : nameOkL n = true) : (47 : UInt8) ∉ n := by
  intro hm
  have h3 := ((nameOkL_iff n).1 h).2.2
  rw [List.all_eq_true] at h3
  have := h3 47 hm
  revert this; decide
theorem name_ne {n : Bs} (h : nameOkL n = true) : n ≠ [] := by
  rintro rfl; simp [nameOkL] at h

theorem cutL_ne (l : Bs) : cutL l ≠ [] := by
  cases l with
  | nil => simp [cutL]
  | cons x r =>
    unfold cutL
    split
    · simp
    · split <;> simp
theorem cutL_one (n : Bs) (h : (47 : UInt8) ∉ n) : cutL n = [n] := by
  induction n with
  | nil => rfl
  | cons x r ih =>
    simp only [List.mem_cons, not_or] at h
    rw [cutL, if_neg (fun e => h.1 e.symm), ih h.2]
theorem cutL_app (n m : Bs) (h : (47 : UInt8) ∉ n) : cutL (n ++ 47 :: m) = n :: cutL m := by
  induction n with
  | nil => simp [cutL]
  | cons x r ih =>
    simp only [List.mem_cons, not_or] at h
    rw [List.cons_append, cutL, if_neg (fun e => h.1 e.symm), ih h.2]
theorem cutL_flat (n : Bs) (r : List Bs) (h : ∀ m ∈ n :: r, (47 : UInt8) ∉ m) : cutL (n ++ flat r) = n :: r := by
  induction r generalizing n with
  | nil => simpa [flat] using cutL_one n (h n (by simp))
  | cons m r ih =>
    rw [flat, cutL_app n _ (h n (by simp)), ih m (fun x hx => h x (by simp at hx ⊢; exact .inr hx))]
theorem flat_cut (l : Bs) : flat (cutL l) = 47 :: l := by
  induction l with
  | nil => rfl
  | cons x r ih =>
    unfold cutL
    split
    · next h => subst h; rw [flat, ih]; rfl
    · split
      · next h => exact absurd h (cutL_ne r)
      · next p ps h => rw [h] at ih; simp only [flat, List.cons.injEq, true_and] at ih ⊢; rw [List.cons_append, ih]
theorem flat_append (a b : List Bs) : flat (a ++ b) = flat a ++ flat b := by
  induction a with
  | nil => rfl
  | cons n a ih => simp [flat, ih]
theorem NS.no47 {ns : List Bs} (h : NS ns) : ∀ m ∈ ns, (47 : UInt8) ∉ m := fun m hm => name_no47 (h.2 m hm)
theorem cut_flat {ns : List Bs} (h : NS ns) (hne : ns ≠ []) : cutL (flat ns).tail = ns := by
  cases ns with
  | nil => exact absurd rfl hne
  | cons n r => exact cutL_flat n r (h.no47)
theorem flat_len {ns : List Bs} (h : ∀ n ∈ ns, nameOkL n = true) : (flat ns).length ≤ 4 * ns.length ∧ 2 * ns.length ≤ (flat ns).length := by
  induction ns with
  | nil => simp [flat]
  | cons n r ih =>
    have h1 := (nameOkL_iff n).1 (h n (by simp))
    have h2 := ih (fun m hm => h m (by simp [hm]))
    simp [flat]; omega
theorem flat_head {ns : List Bs} (hne : ns ≠ []) : (flat ns).head? = some 47 := by
  cases ns with
  | nil => exact absurd rfl hne
  | cons n r => rfl
theorem pathOk_flat {ns : List Bs} (h : NS ns) (hne : ns ≠ []) : pathOkL (flat ns) = true := by
  have h1 := flat_len h.2
  have h2 := h.1
  simp only [pathOkL, cut_flat h hne, flat_head hne, Bool.and_eq_true, decide_eq_true_eq, beq_self_eq_true, List.all_eq_true]
  exact ⟨⟨⟨by omega, trivial⟩, h2⟩, h.2⟩
theorem pathOk_names {l : Bs} (h : pathOkL l = true) : NS (cutL l.tail) ∧ cutL l.tail ≠ [] ∧ l = flat (cutL l.tail) := by
  simp only [pathOkL, Bool.and_eq_true, decide_eq_true_eq, beq_iff_eq, List.all_eq_true] at h
  obtain ⟨⟨⟨_, h2⟩, h3⟩, h4⟩ := h
  refine ⟨⟨h3, h4⟩, cutL_ne _, ?_⟩
  rw [flat_cut]
  cases l with
  | nil => simp at h2
  | cons x r => simp at h2; subst h2; rfl
theorem pathOk_iff (l : Bs) : pathOkL l = true ↔ ∃ ns, NS ns ∧ ns ≠ [] ∧ l = flat ns :=
  ⟨fun h => ⟨_, pathOk_names h⟩, fun ⟨_, h, hne, e⟩ => e ▸ pathOk_flat h hne⟩
theorem flat_inj {a b : List Bs} (ha : NS a) (hb : NS b) (h : flat a = flat b) : a = b := by
  by_cases h1 : a = []
  · subst h1
    cases b with
    | nil => rfl
    | cons n r => simp [flat] at h
  · by_cases h2 : b = []
    · subst h2
      cases a with
      | nil => rfl
      | cons n r => simp [flat] at h
    · rw [← cut_flat ha h1, ← cut_flat hb h2, h]
theorem root_no : pathOkL [47] = false := by decide
theorem empty_no : pathOkL [] = false := by decide
theorem path_ne_root {l : Bs} (h : pathOkL l = true) : l ≠ [47] := by rintro rfl; rw [root_no] at h; cases h
theorem path_len {l : Bs} (h : pathOkL l = true) : 2 ≤ l.length ∧ l.length ≤ 12 := by
  obtain ⟨ns, h1, h2, rfl⟩ := (pathOk_iff l).1 h
  have h3 := flat_len h1.2
  have h4 := h1.1
  have : 1 ≤ ns.length := by cases ns with
    | nil => exact absurd rfl h2
    | cons _ _ => simp
  omega
theorem encP_inj {a b : List Bs} (ha : NS a) (hb : NS b) (h : encP a = encP b) : a = b := by
  unfold encP at h
  split at h <;> split at h
  · next h1 h2 => rw [h1, h2]
  · next h1 h2 => have := pathOk_flat hb h2; rw [← h] at this; exact absurd this (by decide)
  · next h1 h2 => have := pathOk_flat ha h1; rw [h] at this; exact absurd this (by decide)
  · exact flat_inj ha hb h
theorem NS.dropLast {ns : List Bs} (h : NS ns) : NS ns.dropLast :=
  ⟨by have := h.1; simp; omega, fun n hn => h.2 n ((List.dropLast_sublist ns).subset hn)⟩
theorem up_flat {ns : List Bs} (h : NS ns) (hne : ns ≠ []) : upL (flat ns) = encP ns.dropLast := by
  rw [upL, if_pos (pathOk_flat h hne), cut_flat h hne]
theorem name_flat {ns : List Bs} (h : NS ns) (hne : ns ≠ []) : nameL (flat ns) = ns.getLast?.getD [] := by
  rw [nameL, if_pos (pathOk_flat h hne), cut_flat h hne]
theorem levels_flat {ns : List Bs} (h : NS ns) (hne : ns ≠ []) : levelsL (flat ns) = ns.length := by
  rw [levelsL, if_pos (pathOk_flat h hne), cut_flat h hne]

theorem cutL_flat_app (n : Bs) (r : List Bs) (x : Bs) (h : ∀ m ∈ n :: r, (47 : UInt8) ∉ m) : cutL (n ++ flat r ++ 47 :: x) = n :: r ++ cutL x := by
  induction r generalizing n with
  | nil => simpa [flat] using cutL_app n x (h n (by simp))
  | cons m r ih =>
    have : n ++ flat (m :: r) ++ 47 :: x = n ++ 47 :: (m ++ flat r ++ 47 :: x) := by simp [flat]
    rw [this, cutL_app n _ (h n (by simp)), ih m (fun y hy => h y (by simp at hy ⊢; exact .inr hy))]
    rfl
theorem flat_pre {s d : List Bs} {x : Bs} (hs : NS s) (hd : NS d) (hne : d ≠ []) (h : flat s = flat d ++ 47 :: x) : s = d ++ cutL x := by
  have hsn : s ≠ [] := by
    rintro rfl
    simp [flat] at h
  have h1 := cut_flat hs hsn
  rw [h] at h1
  cases d with
  | nil => exact absurd rfl hne
  | cons n r =>
    rw [← h1]
    exact cutL_flat_app n r x hd.no47
theorem NS.of_append {a b : List Bs} (h : NS (a ++ b)) : NS a ∧ NS b := by
  have h1 := h.1
  rw [List.length_append] at h1
  exact ⟨⟨by omega, fun n hn => h.2 n (by simp [hn])⟩, ⟨by omega, fun n hn => h.2 n (by simp [hn])⟩⟩
theorem NS.append {a b : List Bs} (ha : NS a) (hb : NS b) (h : a.length + b.length ≤ 3) : NS (a ++ b) :=
  ⟨by simpa using h, fun n hn => by
    rcases List.mem_append.1 hn with h | h
    · exact ha.2 n h
    · exact hb.2 n h⟩
/-- What the reference asks of a right path. -/
def l1UnderL (s d : Bs) : Bool := d == [47] || (d ++ [47]).isPrefixOf s
theorem l1Under_flat {s d : List Bs} (hs : NS s) (hd : NS d) (hdn : d ≠ []) : l1UnderL (flat s) (flat d) = true ↔ ∃ r, r ≠ [] ∧ s = d ++ r := by
  have hr : (flat d == [47]) = false := by
    rw [beq_eq_false_iff_ne]
    exact path_ne_root (pathOk_flat hd hdn)
  simp only [l1UnderL, hr, Bool.false_or, List.isPrefixOf_iff_prefix]
  constructor
  · rintro ⟨x, hx⟩
    have : flat s = flat d ++ 47 :: x := by rw [← hx]; simp
    exact ⟨cutL x, cutL_ne x, flat_pre hs hd hdn this⟩
  · rintro ⟨r, hr, rfl⟩
    cases r with
    | nil => exact absurd rfl hr
    | cons n r => exact ⟨n ++ flat r, by simp [flat_append, flat]⟩
theorem under_eq (s d : Bs) : underL s d = (pathOkL s && (d == [47] || pathOkL d) && l1UnderL s d) := by
  simp only [underL, l1UnderL]
  by_cases h : d = [47]
  · subst h; simp
  · have : (d == [47]) = false := by simpa using h
    rw [this]; simp [Bool.and_assoc]
theorem under_flat {s d : List Bs} (hs : NS s) (hsn : s ≠ []) (hd : NS d) (hdn : d ≠ []) : underL (flat s) (flat d) = true ↔ ∃ r, r ≠ [] ∧ s = d ++ r := by
  rw [under_eq, pathOk_flat hs hsn, pathOk_flat hd hdn, Bool.or_true, Bool.true_and, Bool.true_and, l1Under_flat hs hd hdn]
theorem under_root {s : Bs} (hs : pathOkL s = true) : underL s [47] = true := by simp [underL, hs]
theorem under_encP {s d : List Bs} (hs : NS s) (hsn : s ≠ []) (hd : NS d) : underL (flat s) (encP d) = true ↔ ∃ r, r ≠ [] ∧ s = d ++ r := by
  by_cases h : d = []
  · subst h
    simp only [encP, if_pos]
    exact ⟨fun _ => ⟨s, hsn, rfl⟩, fun _ => under_root (pathOk_flat hs hsn)⟩
  · rw [encP, if_neg h]; exact under_flat hs hsn hd h
theorem moved_flat {s f t : List Bs} (hs : NS s) (hsn : s ≠ []) (hf : NS f) (hfn : f ≠ []) : moved (flat s) (flat f) (flat t) = flat (if f <+: s then t ++ s.drop f.length else s) := by
  have key : (flat s = flat f ∨ underL (flat s) (flat f) = true) ↔ f <+: s := by
    rw [under_flat hs hsn hf hfn]
    constructor
    · rintro (h | ⟨r, _, rfl⟩)
      · rw [flat_inj hs hf h]; exact ⟨[], by simp⟩
      · exact ⟨r, rfl⟩
    · rintro ⟨r, rfl⟩
      by_cases hr : r = []
      · left; simp [hr]
      · exact .inr ⟨r, hr, rfl⟩
  unfold moved
  by_cases h : f <+: s
  · rw [if_pos (key.2 h), if_pos h]
    obtain ⟨r, rfl⟩ := h
    rw [flat_append, flat_append]
    simp
  · rw [if_neg (fun e => h (key.1 e)), if_neg h]
theorem join_flat {d : List Bs} {n : Bs} (hd : NS d) (hn : nameOkL n = true) (h3 : d.length < 3) : joinOkL (encP d) n = true ∧ joinL (encP d) n = flat (d ++ [n]) := by
  by_cases h : d = []
  · subst h
    have : joinOkL (encP []) n = true := by simp [joinOkL, encP, hn]
    exact ⟨this, by rw [joinL, if_pos this]; simp [encP, flat]⟩
  · have hp := pathOk_flat hd h
    have hr := path_ne_root hp
    have : joinOkL (encP d) n = true := by simp [joinOkL, encP, h, hn, hp, levels_flat hd h, h3]
    exact ⟨this, by rw [joinL, if_pos this]; simp [encP, h, hr, flat_append, flat]⟩
theorem joinOk_iff (d n : Bs) : joinOkL d n = true ↔ ∃ ns, NS ns ∧ ns.length < 3 ∧ nameOkL n = true ∧ d = encP ns := by
  constructor
  · intro h
    simp only [joinOkL, Bool.and_eq_true, Bool.or_eq_true, beq_iff_eq, decide_eq_true_eq] at h
    obtain ⟨h1, h2 | ⟨h2, h3⟩⟩ := h
    · exact ⟨[], ⟨by simp, by simp⟩, by simp, h1, by simp [h2, encP]⟩
    · obtain ⟨ns, hs, hne, rfl⟩ := (pathOk_iff d).1 h2
      rw [levels_flat hs hne] at h3
      exact ⟨ns, hs, h3, h1, by simp [encP, hne]⟩
  · rintro ⟨ns, h1, h2, h3, rfl⟩
    exact (join_flat h1 h3 h2).1
/-- The reference's way to join: what comes is asked whether it is a path. -/
theorem joinOk_spec (d n : Bs) : joinOkL d n = (nameOkL n && (d == [47] || pathOkL d) && pathOkL (if d = [47] then 47 :: n else d ++ 47 :: n)) := by
  rw [Bool.eq_iff_iff]
  constructor
  · intro h
    obtain ⟨ns, h1, h2, h3, rfl⟩ := (joinOk_iff d n).1 h
    have hj := join_flat h1 h3 h2
    have hp : pathOkL (flat (ns ++ [n])) = true := pathOk_flat (h1.append (b := [n]) ⟨by simp, by simpa using h3⟩ (by simp; omega)) (by simp)
    rw [← hj.2, joinL, if_pos h] at hp
    have hd : (encP ns == [47] || pathOkL (encP ns)) = true := by
      by_cases e : ns = []
      · subst e; rfl
      · simp [encP, e, pathOk_flat h1 e]
    simp [h3, hd, hp]
  · simp only [Bool.and_eq_true]
    rintro ⟨⟨h1, h2⟩, h3⟩
    by_cases h : d = [47]
    · subst h; simp [joinOkL, h1]
    · rw [if_neg h] at h3
      have hd : pathOkL d = true := by simpa [h] using h2
      obtain ⟨ns, hs, hne, rfl⟩ := (pathOk_iff d).1 hd
      have he : flat ns ++ 47 :: n = flat (ns ++ [n]) := by simp [flat_append, flat]
      obtain ⟨ms, hm, hmn, hfl⟩ := (pathOk_iff _).1 h3
      have : ms = ns ++ cutL n := flat_pre hm hs hne hfl.symm
      rw [cutL_one n (name_no47 h1)] at this
      have hl := hm.1
      rw [this] at hl
      simp [joinOkL, h1, hd, levels_flat hs hne]
      simp at hl; omega
end Go.Proofs.YtobbodbkdcbflaaDoor
namespace Go.Proofs.YtobbodbkdcbflaaDoor
open Go.RowKit
theorem size_data (s : ByteArray) : s.data.toList.length = s.size := by simp
theorem get_data (s : ByteArray) (k : Nat) (h : k < s.size) : s.data.toList[k]? = some s[k] := by
  simp [h]; rfl
theorem all_of (s : ByteArray) (p : UInt8 → Bool) (h : ∀ k (hk : k < s.size), p s[k] = true) : s.data.toList.all p = true := by
  rw [List.all_eq_true]; intro x hx
  obtain ⟨k, hk, rfl⟩ := List.getElem_of_mem hx
  exact h k (by simpa using hk)
theorem not_all_of (s : ByteArray) (p : UInt8 → Bool) (k : Nat) (hk : k < s.size) (h : p s[k] = false) : s.data.toList.all p = false := by
  rw [List.all_eq_false]; exact ⟨s[k], by have := get_data s k hk; exact List.mem_of_getElem? this, by simp [h]⟩
theorem ret_bool {a b : Bool} (h : a = b) : Ending.returned (.bool a) = .returned (.bool b) := by rw [h]
theorem ret_int {k : IntKind} {a b : Int} (h : a = b) : Ending.returned (.int k a) = .returned (.int k b) := by rw [h]
theorem bytes_eq {a b : ByteArray} (h : a.data.toList = b.data.toList) : a = b := by
  obtain ⟨⟨x⟩⟩ := a; obtain ⟨⟨y⟩⟩ := b; simp at h; rw [h]
theorem ret_str {a b : ByteArray} (h : a.data.toList = b.data.toList) : Ending.returned (.string a) = .returned (.string b) := by rw [bytes_eq h]
theorem bellow_alloc (w : World) (o : Obj) : Below w.heap.size w (w.alloc o) := (Below.refl _ _).alloc (Nat.le_refl _) _
/-- Frames one behind the other. -/
theorem chn {w w1 w2 : World} (h : Below w.heap.size w w1) (k : Below w1.heap.size w1 w2) : Below w.heap.size w w2 := h.trans (k.mono h.size)
/-- A cell that was there is there behind a call. -/
theorem keepc {W W' : World} (hq : Below W.heap.size W W') {a : Addr} {v : Value} (h : W.cell? a = some v) : W'.cell? a = some v :=
  (hq.cell (World.block_lt_of_cell? _ _ h)).trans h
theorem new_cell (w : World) (cs : Array Value) (t : TypeId) (k : Nat) (v : Value) (h : cs[k]? = some v) : (w.alloc (.cells cs t)).cell? ⟨w.heap.size, k, none⟩ = some v :=
  (cell_of_row _ _ k cs t (0, 0) (heap_alloc_new w _)).trans h
theorem own_shape {w : World} {base : Nat} {e : TypeId} {size : Nat} {v : Value} {n : Nat} {xs : List Value} (h : w.ownsRow base e size v n xs) : ∃ a c, v = .slice a n c := by
  rcases h.2 with ⟨rfl, rfl⟩ | ⟨g, cap, cur, rfl, _⟩
  · exact ⟨_, _, rfl⟩
  · exact ⟨_, _, rfl⟩
theorem own_form {w : World} {base : Nat} {e : TypeId} {size : Nat} {v : Value} {n : Nat} {xs : List Value} (h : w.ownsRow base e size v n xs) (hn : 0 < n) :
    ∃ g c, v = .slice (some ⟨g, 0, none⟩) n c ∧ n ≤ c ∧ base ≤ g ∧ g < w.heap.size ∧ (∀ j u, xs[j]? = some u → w.cell? ⟨g, j, none⟩ = some u) ∧ (∀ j, w.frozen? ⟨g, j, none⟩ = false) := by
  rcases h.2 with ⟨_, h0⟩ | ⟨g, cap, cur, rfl, hg, hh, hnc, _, hcur, htake⟩
  · omega
  · refine ⟨g, cap, rfl, hnc, hg, ?_, ?_, ?_⟩
    · rcases Nat.lt_or_ge g w.heap.size with h1 | h1
      · exact h1
      · rw [Array.getElem?_eq_none h1] at hh; cases hh
    · intro j u hj
      rw [cell_of_row _ _ j _ e (0, 0) hh]
      rw [← htake, List.getElem?_take] at hj
      split at hj
      · simpa using hj
      · cases hj
    · intro j
      simp [World.frozen?, hh]
/-- An element type's row of the table, with its slice type. -/
structure Elt (P : Program) (t e : TypeId) (size bytes : Nat) : Prop where
  und : P.underlying t = some (.slice e)
  info : ∃ i z, P.info? e = some i ∧ i.zero = some z ∧ i.size = size ∧ i.bytes = bytes ∧ z.cells.size = size
  pos : 0 < size
  small : bytes ≤ 64
/-- 'append(out, x)': one element that lies in a block of its own, onto a row of the call's own. -/
theorem wp_app1 {P : Program} {ops : Array Oper} {rest : List Oper} {o : Oper} {a : Act} {Q : Exit → Act → World → Prop} (hgd : o.guard = none) (s x : Operand) (t : TypeId)
    (ho : o.op = .call { callee := .builtin .append, args := #[s, x], argTypes := #[t, t] }) {e : TypeId} {size bytes : Nat} (E : Elt P t e size bytes)
    (base B : Nat) (w0 w : World) (cs : Array Value) (v : Value) (n : Nat) (xs : List Value) (hs : a.eval s = v) (hx : a.eval x = .slice (some ⟨w.heap.size, 0, none⟩) 1 1)
    (hown : w.ownsRow base e size v n xs) (hcs : cs.size = size) (h1 : ∀ u ∈ cs.toList, u.oneCell' = true) (hn : n ≤ 1000000) (hbase : base ≤ w.heap.size) (hB : Below B w0 w) (hBb : B ≤ base)
    (h : ∀ v' w', w'.ownsRow base e size v' (n + 1) (xs ++ cs.toList) → Below B w0 w' → w.heap.size ≤ w'.heap.size → (w.alloc (.cells cs e)).grownBy w' v.ownBlock → wpList P ops Q rest (a.put o.dst v') w') :
    wpList P ops Q (o :: rest) a (w.alloc (.cells cs e)) := by
  obtain ⟨i, z, hi, hz, hsz, hby, hzs⟩ := E.info
  have hsm := E.small
  refine wpList_append_own _ hgd s x t ho base e i z size bytes E.und hi hz hsz hby hzs E.pos v n xs hs (hown.alloc _) ⟨w.heap.size, 0, none⟩ 1 1 cs.toList hx (by simp [hcs]) ?_ h1 (by unfold maxLen; omega) ?_ (by simp; omega) ?_
  · intro j u hj
    have hc := cell_of_row _ _ j _ e (0, 0) (heap_alloc_new w (.cells cs e))
    have ha : (⟨w.heap.size, 0, none⟩ : Addr).add j = ⟨w.heap.size, j, none⟩ := by
      unfold Addr.add
      by_cases h0 : j = 0
      · simp [h0]
      · simp [h0]
    rw [ha, hc]
    simpa using hj
  · have : (n + 1) * bytes ≤ 1000001 * 64 := Nat.mul_le_mul (by omega) hsm
    omega
  · intro v' w' h2 h3 _
    have hsz := h3.size
    simp at hsz
    refine h v' w' h2 ((hB.alloc (by omega) _).grown h3 (by simp; omega) ?_) (by omega) h3
    intro k hk
    rcases hown.2 with ⟨rfl, _⟩ | ⟨g, cap, cur, rfl, hg, _⟩
    · simp [Value.ownBlock] at hk
    · simp [Value.ownBlock] at hk; omega
end Go.Proofs.YtobbodbkdcbflaaDoor
namespace Go.Proofs.YtobbodbkdcbflaaDoor
open Go.RowKit
/-- Only block g, and what is new, has turned. -/
def Only (g : Nat) (w w' : World) : Prop := w.grownBy w' (some g)
theorem Only.refl (g : Nat) (w : World) : Only g w w := ⟨rfl, rfl, rfl, Nat.le_refl _, fun _ _ _ => rfl⟩
theorem Only.trans {g : Nat} {a b c : World} (h : Only g a b) (k : Only g b c) : Only g a c :=
  ⟨k.os.trans h.os, k.tape.trans h.tape, k.output.trans h.output, Nat.le_trans h.size k.size, fun i hi hne => (k.block i (Nat.lt_of_lt_of_le hi h.size) hne).trans (h.block i hi hne)⟩
theorem Only.drewN {g : Nat} {a b : World} (h : Only g a b) (n : Nat) : Only g a (b.drewN n) := ⟨h.os, h.tape, h.output, h.size, h.block⟩
theorem Only.of_below {g : Nat} {a b : World} (h : Below a.heap.size a b) : Only g a b := ⟨h.os, h.tape, h.output, h.size, fun i hi _ => h.block i hi⟩
theorem Only.setCell {g : Nat} {a b : World} (h : Only g a b) {p : Addr} (hp : p.block = g ∨ a.heap.size ≤ p.block) (u : Value) : Only g a (b.setCell p u) :=
  ⟨h.os, h.tape, h.output, by simpa [World.setCell] using h.size, fun i hi hne => (Below.heap_setCell b p u i (by
    rintro rfl
    rcases hp with hp | hp
    · exact hne (by rw [hp])
    · omega)).trans (h.block i hi hne)⟩
theorem Only.below {g B : Nat} {w0 a b : World} (h0 : Below B w0 a) (h : Only g a b) (hg : B ≤ g) (hB : B ≤ a.heap.size) : Below B w0 b :=
  h0.grown h hB (fun k hk => by injection hk with hk; omega)
end Go.Proofs.YtobbodbkdcbflaaDoor
namespace Go.Proofs.YtobbodbkdcbflaaDoor
open Go.RowKit
theorem xor_i64 (a b : Nat) (ha : a < 4611686018427387904) (hb : b < 4611686018427387904) : bits .xor .i64 (a : Int) (b : Int) = ((a ^^^ b : Nat) : Int) := by
  have hx : a ^^^ b < 2 ^ 62 := Nat.xor_lt_two_pow (by omega) (by omega)
  show IntKind.i64.wrap ((BitVec.ofInt 64 (a : Int) ^^^ BitVec.ofInt 64 (b : Int)).toNat : Int) = _
  have e : ∀ c : Nat, c < 4611686018427387904 → (BitVec.ofInt 64 (c : Int)).toNat = c := fun c hc => by
    rw [BitVec.ofInt_natCast, BitVec.toNat_ofNat]; exact Nat.mod_eq_of_lt (by omega)
  rw [BitVec.toNat_xor, e a ha, e b hb]
  exact IntWalk.i64_in _ (by omega)
/-- Bytes that can be read: n of them, at a place below block g. -/
def BytesAt (w : World) (g : Nat) (a : Option Addr) (n : Nat) : Prop :=
  0 < n → ∃ b off, a = some ⟨b, off, none⟩ ∧ b < g ∧ ∀ k, k < n → ∃ x : Int, 0 ≤ x ∧ x ≤ 255 ∧ w.cell? ⟨b, off + k, none⟩ = some (.int .u8 x)
/-- The reader in block g: p bytes have been picked. -/
def Rd (w : World) (g p : Nat) : Prop :=
  ∃ a n c, w.heap[g]? = some (.cells #[.slice a n c, .int .i64 (p : Int)] 82 (0, 0)) ∧ n ≤ c ∧ n ≤ 2000 ∧ BytesAt w g a n
theorem Rd.keep {w w' : World} {g p : Nat} (h : Rd w g p) (hb : Below w.heap.size w w') (hg : g < w.heap.size) : Rd w' g p := by
  obtain ⟨a, n, c, h1, h2, h3, h4⟩ := h
  refine ⟨a, n, c, (hb.block g hg).trans h1, h2, h3, fun hn => ?_⟩
  obtain ⟨b, off, e, hlt, hc⟩ := h4 hn
  exact ⟨b, off, e, hlt, fun k hk => by
    obtain ⟨x, h5, h6, h7⟩ := hc k hk
    exact ⟨x, h5, h6, (hb.cell (p := ⟨b, off + k, none⟩) (Nat.lt_trans hlt hg)).trans h7⟩⟩
theorem Rd.lt {w : World} {g p : Nat} (h : Rd w g p) : g < w.heap.size := by
  obtain ⟨a, n, c, h1, _⟩ := h
  rcases Nat.lt_or_ge g w.heap.size with h2 | h2
  · exact h2
  · rw [Array.getElem?_eq_none h2] at h1; cases h1
/-- What a pick leaves: a number below n. -/
def PickPost (w : World) (g p : Nat) (n : Int) (e : Ending) (w' : World) : Prop :=
  ∃ m : Nat, e = .returned (.int .i64 m) ∧ (n < 1 → m = 0) ∧ (1 ≤ n → (m : Int) < n) ∧ Rd w' g (p + 1) ∧ Only g w w'
theorem rd_step {w w1 : World} {g p n c : Nat} {a : Option Addr} (h1 : w.heap[g]? = some (.cells #[.slice a n c, .int .i64 (p : Int)] 82 (0, 0))) (h2 : n ≤ c) (h3 : n ≤ 2000) (h4 : BytesAt w g a n)
    (hw : ∃ q, w1 = (w.setCell ⟨g, 1, none⟩ (.int .i64 ((p : Int) + 1))).drewN q) : Rd w1 g (p + 1) ∧ Only g w w1 := by
  obtain ⟨q, rfl⟩ := hw
  refine ⟨⟨a, n, c, ?_, h2, h3, fun hn => ?_⟩, (Only.setCell (Only.refl _ _) (.inl rfl) _).drewN _⟩
  · show (w.setCell _ _).heap[g]? = _
    simp [World.setCell, Array.getElem?_modify, h1]
  · obtain ⟨b, off, e, hlt, hc⟩ := h4 hn
    exact ⟨b, off, e, hlt, fun k hk => by
      obtain ⟨x, h5, h6, h7⟩ := hc k hk
      exact ⟨x, h5, h6, (World.cell?_setCell_other w _ _ _ (fun e => by injection e with e; omega)).trans h7⟩⟩
set_option maxHeartbeats 1000000 in
theorem pick_c (w : World) (g p : Nat) (n : Int) (hr : Rd w g p) (hp : p ≤ 1000000) (hn : n ≤ 1000000) (hn0 : -1000000 ≤ n) :
    Calls Tryd.prog 76 #[.pointer (some ⟨g, 0, none⟩), .int .i64 n] w (PickPost w g p n) := by
  obtain ⟨a, l, c, h1, h2, h3, h4⟩ := hr
  have hs := Lib.hid (fun w1 => rd_step (w1 := w1) h1 h2 h3 h4)
  have c0 : w.cell? ⟨g, 0, none⟩ = some (.slice a l c) := cell_of_row w g 0 _ _ _ h1
  have c1 : w.cell? ⟨g, 1, none⟩ = some (.int .i64 (p : Int)) := cell_of_row w g 1 _ _ _ h1
  have f1 : w.frozen? ⟨g, 1, none⟩ = false := by simp [World.frozen?, h1]
  clear h1
  by_cases hn1 : n < 1
  · clear h4
    go_enter Tryd.func76, Tryd.ntmps76
    go_wp2
    go_ret
    exact ⟨0, rfl, fun _ => rfl, fun h => by omega, hs.out _ ⟨0, rfl⟩⟩
  by_cases hl : l = 0
  · subst hl
    clear h4
    go_enter Tryd.func76, Tryd.ntmps76
    go_wp2
    go_ret
    exact ⟨0, rfl, fun h => by omega, fun h => by omega, hs.out _ ⟨0, rfl⟩⟩
  obtain ⟨b, off, rfl, hlt, hc⟩ := h4 (by omega)
  have hl0 : ((l : Int) == 0) = false := by rw [beq_eq_false_iff_ne]; omega
  by_cases hpl : p < l
  · obtain ⟨x, hx0, hx1, hcx⟩ := hc p hpl
    have hcx' : (w.setCell ⟨g, 1, none⟩ (.int .i64 ((p : Int) + 1))).cell? ⟨b, off + p, none⟩ = some (.int .u8 x) :=
      (World.cell?_setCell_other w _ _ _ (fun e => by injection e with e; omega)).trans hcx
    have hm : Hid (∃ m : Nat, x % n = (m : Int) ∧ (m : Int) < n) := ⟨(x % n).toNat, by have := Int.emod_nonneg x (b := n) (by omega); omega, by have := Int.emod_lt_of_pos x (b := n) (by omega); have := Int.emod_nonneg x (b := n) (by omega); omega⟩
    clear hc
    go_enter Tryd.func76, Tryd.ntmps76
    go_wp2
    go_ret
    obtain ⟨m, hm1, hm2⟩ := hm.out
    exact ⟨m, ret_int hm1, fun h => by omega, fun _ => hm2, hs.out _ ⟨0, rfl⟩⟩
  · obtain ⟨q, hq⟩ : ∃ q, p % l = q := ⟨_, rfl⟩
    obtain ⟨q2, hq2⟩ : ∃ q2, (p * 7 + 3) % l = q2 := ⟨_, rfl⟩
    obtain ⟨q3, hq3⟩ : ∃ q3, p / l = q3 := ⟨_, rfl⟩
    have hql : q < l := by rw [← hq]; exact Nat.mod_lt _ (by omega)
    have hq2l : q2 < l := by rw [← hq2]; exact Nat.mod_lt _ (by omega)
    have hq3l : q3 ≤ 1000000 := by rw [← hq3]; exact Nat.le_trans (Nat.div_le_self _ _) hp
    have e1 : ((p : Int) % (l : Int)) = (q : Int) := by rw [← hq]; rfl
    have e2 : (((p : Int) * 7 + 3) % (l : Int)) = (q2 : Int) := by rw [← hq2]; rfl
    have e3 : ((p : Int) / (l : Int)) = (q3 : Int) := by rw [← hq3]; rfl
    obtain ⟨x, hx0, hx1, hcx⟩ := hc q hql
    obtain ⟨y, hy0, hy1, hcy⟩ := hc q2 hq2l
    have hcx' : (w.setCell ⟨g, 1, none⟩ (.int .i64 ((p : Int) + 1))).cell? ⟨b, off + q, none⟩ = some (.int .u8 x) :=
      (World.cell?_setCell_other w _ _ _ (fun e => by injection e with e; omega)).trans hcx
    have hcy' : (w.setCell ⟨g, 1, none⟩ (.int .i64 ((p : Int) + 1))).cell? ⟨b, off + q2, none⟩ = some (.int .u8 y) :=
      (World.cell?_setCell_other w _ _ _ (fun e => by injection e with e; omega)).trans hcy
    have hM : Hid (∃ m : Nat, (bits .xor .i64 (x * 131 + y * 1117 + (p : Int) * 29 + (q3 : Int) * 53) ((x * 131 + y * 1117 + (p : Int) * 29 + (q3 : Int) * 53) / 64)).tmod n = (m : Int) ∧ (m : Int) < n) := by
      obtain ⟨X, hX⟩ : ∃ X : Nat, x * 131 + y * 1117 + (p : Int) * 29 + (q3 : Int) * 53 = (X : Int) := ⟨(x * 131 + y * 1117 + (p : Int) * 29 + (q3 : Int) * 53).toNat, by omega⟩
      have hXl : X < 4611686018427387904 := by omega
      obtain ⟨N, rfl⟩ : ∃ N : Nat, n = (N : Int) := ⟨n.toNat, by omega⟩
      have hd : ((X : Int) / 64) = ((X / 64 : Nat) : Int) := rfl
      rw [hX, hd, xor_i64 X (X / 64) hXl (by omega), Int.tmod_eq_emod_of_nonneg (by omega)]
      exact ⟨(X ^^^ X / 64) % N, rfl, by have := Nat.mod_lt (X ^^^ X / 64) (y := N) (by omega); omega⟩
    have t1 : Int.tmod (p : Int) (l : Int) = (q : Int) := by rw [Int.tmod_eq_emod_of_nonneg (by omega)]; exact e1
    have t2 : Int.tmod ((p : Int) * 7 + 3) (l : Int) = (q2 : Int) := by rw [Int.tmod_eq_emod_of_nonneg (by omega)]; exact e2
    have t3 : Int.tdiv (p : Int) (l : Int) = (q3 : Int) := by rw [Int.tdiv_eq_ediv_of_nonneg (by omega)]; exact e3
    have wr1 : IntKind.i64.wrap ((p : Int) * 7) = (p : Int) * 7 := IntWalk.i64_in _ (by omega)
    have wr2 : IntKind.i64.wrap ((p : Int) * 7 + 3) = (p : Int) * 7 + 3 := IntWalk.i64_in _ (by omega)
    have wr3 : IntKind.i64.wrap (x * 131) = x * 131 := IntWalk.i64_in _ (by omega)
    have wr4 : IntKind.i64.wrap (y * 1117) = y * 1117 := IntWalk.i64_in _ (by omega)
    have wr5 : IntKind.i64.wrap (x * 131 + y * 1117) = x * 131 + y * 1117 := IntWalk.i64_in _ (by omega)
    have wr6 : IntKind.i64.wrap ((p : Int) * 29) = (p : Int) * 29 := IntWalk.i64_in _ (by omega)
    have wr7 : IntKind.i64.wrap (x * 131 + y * 1117 + (p : Int) * 29) = x * 131 + y * 1117 + (p : Int) * 29 := IntWalk.i64_in _ (by omega)
    have wr8 : IntKind.i64.wrap ((q3 : Int) * 53) = (q3 : Int) * 53 := IntWalk.i64_in _ (by omega)
    have wr9 : IntKind.i64.wrap (x * 131 + y * 1117 + (p : Int) * 29 + (q3 : Int) * 53) = x * 131 + y * 1117 + (p : Int) * 29 + (q3 : Int) * 53 := IntWalk.i64_in _ (by omega)
    have i1 : (0 : Int) ≤ (q : Int) := by omega
    have i2 : (q : Int) < (l : Int) := by omega
    have i3 : (0 : Int) ≤ (q2 : Int) := by omega
    have i4 : (q2 : Int) < (l : Int) := by omega
    clear hc hq hq2 hq3
    go_enter Tryd.func76, Tryd.ntmps76
    go_wp2
    go_quiet (fail)
    go_wp2
    go_ret
    obtain ⟨m, hm1, hm2⟩ := hM.out
    exact ⟨m, ret_int hm1, fun h => by omega, fun _ => hm2, hs.out _ ⟨_, rfl⟩⟩

set_option maxHeartbeats 1000000 in
theorem open_c (w : World) (a : Option Addr) (n c : Nat) (hnc : n ≤ c) (hb : BytesAt w w.heap.size a n) (hn : n ≤ 9223372036854775807) :
    Calls Tryd.prog 40 #[.slice a n c] w fun e w' => e = .returned (.pointer (some ⟨w.heap.size, 0, none⟩)) ∧ Rd w' w.heap.size 0 ∧ Below w.heap.size w w' := by
  have hfin : ∀ m c', m ≤ c' → m ≤ 2000 → m ≤ n → Hid (Rd (w.alloc (.cells #[.slice a m c', .int .i64 0] 82)) w.heap.size 0) := fun m c' h1 h2 h3 =>
    ⟨a, m, c', heap_alloc_new w _, h1, h2, fun hm => by
      obtain ⟨b, off, e, hlt, hc⟩ := hb (by omega)
      exact ⟨b, off, e, hlt, fun k hk => by
        obtain ⟨x, h5, h6, h7⟩ := hc k (by omega)
        exact ⟨x, h5, h6, (World.cell?_alloc_lt w _ _ (by simpa using hlt)).trans h7⟩⟩⟩
  by_cases h : 2000 < n
  · have H := hfin 2000 c (by omega) (by omega) (by omega)
    clear hfin
    obtain ⟨b, off, rfl, _, _⟩ := hb (by omega)
    clear hb
    go_enter Tryd.func40, Tryd.ntmps40
    go_wp2
    go_ret
    exact ⟨rfl, H.out, (Below.refl _ _).alloc (Nat.le_refl _) _⟩
  · have H := hfin n c hnc (by omega) (by omega)
    clear hfin hb
    go_enter Tryd.func40, Tryd.ntmps40
    go_wp2
    go_ret
    exact ⟨rfl, H.out, (Below.refl _ _).alloc (Nat.le_refl _) _⟩
/-- An argument of bytes that can be read. -/
def Code (w : World) (a : Option Addr) (n c : Nat) : Prop := n ≤ c ∧ BytesAt w w.heap.size a n ∧ n ≤ 9223372036854775807
theorem BytesAt.below {w w' : World} {a : Option Addr} {n : Nat} (h : BytesAt w w.heap.size a n) (hb : Below w.heap.size w w') : BytesAt w' w'.heap.size a n := fun hn => by
  obtain ⟨b, off, e, hlt, hc⟩ := h hn
  refine ⟨b, off, e, Nat.lt_of_lt_of_le hlt hb.size, fun k hk => ?_⟩
  obtain ⟨x, h5, h6, h7⟩ := hc k hk
  exact ⟨x, h5, h6, (hb.cell (p := ⟨b, off + k, none⟩) hlt).trans h7⟩
theorem Code.below {w w' : World} {a : Option Addr} {n c : Nat} (h : Code w a n c) (hb : Below w.heap.size w w') : Code w' a n c := ⟨h.1, h.2.1.below hb, h.2.2⟩
theorem open_c' (w : World) (a : Option Addr) (n c : Nat) (h : Code w a n c) :
    Calls Tryd.prog 40 #[.slice a n c] w fun e w' => e = .returned (.pointer (some ⟨w.heap.size, 0, none⟩)) ∧ Rd w' w.heap.size 0 ∧ Below w.heap.size w w' :=
  open_c w a n c h.1 h.2.1 h.2.2
end Go.Proofs.YtobbodbkdcbflaaDoor
namespace Go.Proofs.YtobbodbkdcbflaaDoor
open Go.RowKit
/-- A short text. -/
def smallStr (v : Value) : Bool := match v with | .string s => decide (s.size ≤ 20) | _ => false
/-- What a drawing of a text leaves. -/
def StrPost (w : World) (g p q : Nat) (e : Ending) (w' : World) : Prop :=
  ∃ (s : ByteArray) (p' : Nat), e = .returned (.string s) ∧ s.size ≤ 20 ∧ p' ≤ p + q ∧ Rd w' g p' ∧ Only g w w'
theorem small_at {cs : Array Value} (h : cs.toList.all smallStr = true) {k : Nat} (hk : k < cs.size) : ∃ s : ByteArray, cs[k]? = some (.string s) ∧ s.size ≤ 20 := by
  have h1 := List.all_eq_true.1 h cs[k] (by simp)
  have h2 : cs[k]? = some cs[k] := Array.getElem?_eq_getElem hk
  cases hv : cs[k] with
  | string s => exact ⟨s, by rw [h2, hv], by rw [hv] at h1; simpa [smallStr] using h1⟩
  | _ => rw [hv] at h1; simp [smallStr] at h1
set_option maxHeartbeats 1000000 in
theorem of_c (w : World) (g p b n : Nat) (cs : Array Value) (t : TypeId) (hr : Rd w g p) (hp : p ≤ 1000000) (hb : w.heap[b]? = some (.cells cs t (0, 0))) (hbg : b ≠ g) (hn : cs.size = n) (h0 : 0 < n) (hn1 : n ≤ 1000) (hs : cs.toList.all smallStr = true) :
    Calls Tryd.prog 77 #[.pointer (some ⟨g, 0, none⟩), .slice (some ⟨b, 0, none⟩) n n] w (StrPost w g p 1) := by
  have hbl : b < w.heap.size := by
    rcases Nat.lt_or_ge b w.heap.size with h | h
    · exact h
    · rw [Array.getElem?_eq_none h] at hb; cases hb
  have HP := Lib.hid (pick_c w g p (n : Int) hr hp (by omega) (by omega))
  have HC : Hid (∀ w1 (m : Nat), Only g w w1 → m < n → ∃ s : ByteArray, w1.cell? ⟨b, m, none⟩ = some (.string s) ∧ s.size ≤ 20) := fun w1 m ho hm => by
    obtain ⟨s, h1, h2⟩ := small_at hs (k := m) (by omega)
    refine ⟨s, ?_, h2⟩
    rw [cell_of_row w1 b m cs t (0, 0) ((ho.block b hbl (by simpa using hbg)).trans hb)]
    exact h1
  clear hb hs hn hbg hr
  go_enter Tryd.func77, Tryd.ntmps77
  go_wp2_with fail
  refine HP.out.mono ?_
  rintro e w1 ⟨m, rfl, _, hm, hrd, ho⟩
  have hm' : m < n := by have := hm (by omega); omega
  obtain ⟨s, hc, hsz⟩ := HC.out w1 m ho hm'
  clear hm
  go_wp2
  go_ret
  exact ⟨s, p + 1, rfl, hsz, Nat.le_refl _, hrd, ho⟩
/-- A text of which F says yes. -/
def okStr (F : ByteArray → Bool) (v : Value) : Bool := match v with | .string s => F s | _ => false
theorem ok_at {F : ByteArray → Bool} {cs : Array Value} (h : cs.toList.all (okStr F) = true) {k : Nat} (hk : k < cs.size) : ∃ s : ByteArray, cs[k]? = some (.string s) ∧ F s = true := by
  have h1 := List.all_eq_true.1 h cs[k] (by simp)
  have h2 : cs[k]? = some cs[k] := Array.getElem?_eq_getElem hk
  cases hv : cs[k] with
  | string s => exact ⟨s, by rw [h2, hv], by rw [hv] at h1; exact h1⟩
  | _ => rw [hv] at h1; simp [okStr] at h1
/-- What a drawing of a text of which F says yes leaves. -/
def StrOf (F : ByteArray → Bool) (w : World) (g p q : Nat) (e : Ending) (w' : World) : Prop :=
  ∃ (s : ByteArray) (p' : Nat), e = .returned (.string s) ∧ F s = true ∧ p' ≤ p + q ∧ Rd w' g p' ∧ Only g w w'
set_option maxHeartbeats 1000000 in
theorem ofF_c (F : ByteArray → Bool) (w : World) (g p b n : Nat) (cs : Array Value) (t : TypeId) (hr : Rd w g p) (hp : p ≤ 1000000) (hb : w.heap[b]? = some (.cells cs t (0, 0))) (hbg : b ≠ g) (hn : cs.size = n) (h0 : 0 < n) (hn1 : n ≤ 1000) (hs : cs.toList.all (okStr F) = true) :
    Calls Tryd.prog 77 #[.pointer (some ⟨g, 0, none⟩), .slice (some ⟨b, 0, none⟩) n n] w (StrOf F w g p 1) := by
  have hbl : b < w.heap.size := by
    rcases Nat.lt_or_ge b w.heap.size with h | h
    · exact h
    · rw [Array.getElem?_eq_none h] at hb; cases hb
  have HP := Lib.hid (pick_c w g p (n : Int) hr hp (by omega) (by omega))
  have HC : Hid (∀ w1 (m : Nat), Only g w w1 → m < n → ∃ s : ByteArray, w1.cell? ⟨b, m, none⟩ = some (.string s) ∧ F s = true) := fun w1 m ho hm => by
    obtain ⟨s, h1, h2⟩ := ok_at hs (k := m) (by omega)
    refine ⟨s, ?_, h2⟩
    rw [cell_of_row w1 b m cs t (0, 0) ((ho.block b hbl (by simpa using hbg)).trans hb)]
    exact h1
  clear hb hs hn hbg hr
  go_enter Tryd.func77, Tryd.ntmps77
  go_wp2_with fail
  refine HP.out.mono ?_
  rintro e w1 ⟨m, rfl, _, hm, hrd, ho⟩
  have hm' : m < n := by have := hm (by omega); omega
  obtain ⟨s, hc, hsz⟩ := HC.out w1 m ho hm'
  clear hm
  go_wp2
  go_ret
  exact ⟨s, p + 1, rfl, hsz, Nat.le_refl _, hrd, ho⟩
theorem Rd.alloc {w : World} {g p : Nat} (h : Rd w g p) (o : Obj) : Rd (w.alloc o) g p := h.keep (bellow_alloc w o) h.lt
theorem Only.alloc {g : Nat} {a b : World} (h : Only g a b) (o : Obj) : Only g a (b.alloc o) := h.trans (Only.of_below (bellow_alloc b o))
set_option maxHeartbeats 1000000 in
theorem l1Path_c (w : World) (g p : Nat) (hr : Rd w g p) (hp : p ≤ 1000000) :
    Calls Tryd.prog 72 #[.pointer (some ⟨g, 0, none⟩)] w (StrPost w g p 1) := by
  have hg := hr.lt
  have HO := Lib.hid (fun (cs : Array Value) (n : Nat) (hn : Hid (cs.size = n)) h0 h1 hs => of_c (w.alloc (.cells cs 9)) g p w.heap.size n cs 9 (hr.alloc _) hp (heap_alloc_new w _) (by omega) hn.out h0 h1 hs)
  clear hr
  go_enter Tryd.func72, Tryd.ntmps72
  go_wp2_with fail
  refine (HO.out _ _ (by exact Lib.hid rfl) (by decide) (by decide) (by rfl)).mono ?_
  rintro e w1 ⟨s, p', rfl, hs, hp', hrd, ho⟩
  go_wp2
  go_ret
  exact ⟨s, p', rfl, hs, hp', hrd, ((Only.refl g w).alloc _).trans ho⟩
/-- A right path whose first letter is ahead of k. -/
def pathT (s : ByteArray) : Bool := pathOkL s.data.toList && decide ((s.data.getD 1 0).toNat < 107)
/-- A short text whose second byte is ahead of k. -/
def goodT (s : ByteArray) : Bool := decide (s.size ≤ 20) && decide ((s.data.getD 1 0).toNat < 107)
theorem goodT_size {s : ByteArray} (h : goodT s = true) : s.size ≤ 20 := by unfold goodT at h; simp only [Bool.and_eq_true, decide_eq_true_eq] at h; exact h.1
theorem goodT_via {s : ByteArray} (h : goodT s = true) {k : UInt8} (hk : 107 ≤ k.toNat) : s ≠ ⟨#[47, k]⟩ := by
  rintro rfl
  unfold goodT at h
  simp at h
  omega
theorem pathT_good {s : ByteArray} (h : pathT s = true) : goodT s = true := by
  unfold pathT at h
  unfold goodT
  simp only [Bool.and_eq_true, decide_eq_true_eq] at h ⊢
  refine ⟨?_, h.2⟩
  have h1 := (path_len h.1).2
  rw [size_data] at h1
  omega
set_option maxHeartbeats 1000000 in
theorem l1PathT_c (w : World) (g p : Nat) (hr : Rd w g p) (hp : p ≤ 1000000) :
    Calls Tryd.prog 72 #[.pointer (some ⟨g, 0, none⟩)] w (StrOf pathT w g p 1) := by
  have hg := hr.lt
  have HO := Lib.hid (fun (cs : Array Value) (n : Nat) (hn : Hid (cs.size = n)) h0 h1 hs => ofF_c pathT (w.alloc (.cells cs 9)) g p w.heap.size n cs 9 (hr.alloc _) hp (heap_alloc_new w _) (by omega) hn.out h0 h1 hs)
  clear hr
  go_enter Tryd.func72, Tryd.ntmps72
  go_wp2_with fail
  refine (HO.out _ _ (by exact Lib.hid rfl) (by decide) (by decide) (by kernel_rfl)).mono ?_
  rintro e w1 ⟨s, p', rfl, hs, hp', hrd, ho⟩
  go_wp2
  go_ret
  exact ⟨s, p', rfl, hs, hp', hrd, ((Only.refl g w).alloc _).trans ho⟩
set_option maxHeartbeats 1000000 in
theorem l1Text_c (w : World) (g p : Nat) (hr : Rd w g p) (hp : p ≤ 900000) :
    Calls Tryd.prog 52 #[.pointer (some ⟨g, 0, none⟩)] w (StrPost w g p 2) := by
  have hg := hr.lt
  have HP := Lib.hid (pick_c w g p 4 hr (by omega) (by omega) (by omega))
  clear hr
  go_enter Tryd.func52, Tryd.ntmps52
  go_wp2_with fail
  refine HP.out.mono ?_
  rintro e w1 ⟨m, rfl, _, _, hrd, ho⟩
  by_cases hm : 0 < m
  · have HL := Lib.hid (l1Path_c w1 g (p + 1) hrd (by omega))
    clear hrd
    go_wp2_with fail
    refine HL.out.mono ?_
    rintro e w2 ⟨s, p', rfl, hs, hp', hrd2, ho2⟩
    go_wp2
    go_ret
    exact ⟨s, p', rfl, hs, by omega, hrd2, ho.trans ho2⟩
  · have hg1 := hrd.lt
    have HO := Lib.hid (fun (cs : Array Value) (n : Nat) (hn : Hid (cs.size = n)) h0 h1 hs => of_c (w1.alloc (.cells cs 9)) g (p + 1) w1.heap.size n cs 9 (hrd.alloc _) (by omega) (heap_alloc_new w1 _) (by omega) hn.out h0 h1 hs)
    clear hrd
    go_wp2_with fail
    refine (HO.out _ _ (by exact Lib.hid rfl) (by decide) (by decide) (by rfl)).mono ?_
    rintro e w2 ⟨s, p', rfl, hs, hp', hrd2, ho2⟩
    go_wp2
    go_ret
    exact ⟨s, p', rfl, hs, by omega, hrd2, (ho.alloc _).trans ho2⟩
end Go.Proofs.YtobbodbkdcbflaaDoor
namespace Go.Proofs.YtobbodbkdcbflaaDoor
open Go.RowKit
set_option maxHeartbeats 400000 in
theorem nameOk_c (s : ByteArray) (r : Bool) (hr : Hid (nameOkL s.data.toList = r)) (w : World) (hs : s.size ≤ maxLen) :
    Calls Tryd.prog 69 #[.string s] w fun e w' => e = .returned (.bool r) ∧ w = w' := by
  unfold maxLen at hs
  have hz := size_data s
  have HI : Hid (nameOkL s.data.toList = true ↔ 1 ≤ s.size ∧ s.size ≤ 3 ∧ s.data.toList.all isLo = true) := by rw [← hz]; exact nameOkL_iff _
  clear hz
  by_cases h1 : s.size < 1
  · obtain rfl : r = false := by
      cases r
      · rfl
      · have := HI.out.1 hr.out; omega
    go_enter Tryd.func69, Tryd.ntmps69
    go_wp2
    go_ret; exact ⟨rfl, rfl⟩
  by_cases h3 : 3 < s.size
  · obtain rfl : r = false := by
      cases r
      · rfl
      · have := HI.out.1 hr.out; omega
    go_enter Tryd.func69, Tryd.ntmps69
    go_wp2
    go_ret; exact ⟨rfl, rfl⟩
  go_enter Tryd.func69, Tryd.ntmps69
  go_wp2
  go_loop [3] (fun i => ∃ k : Nat, k ≤ s.size ∧ i = .int .i64 k ∧ (∀ j (hj : j < s.size), j < k → isLo s[j] = true)) (fun i => s.size - (intOf i).toNat)
  case atStart => exact ⟨0, Nat.zero_le _, rfl, fun j _ h => absurd h (by omega)⟩
  case round =>
    obtain ⟨k, hk, rfl, hall⟩ := hrel
    have HA := Lib.hid hall; clear hall
    by_cases hlt : k < s.size
    · by_cases hc : isLo s[k] = true
      · have hc' : 97 ≤ (s[k].toNat : Int) ∧ (s[k].toNat : Int) ≤ 122 := by simp [isLo] at hc; omega
        have HC := Lib.hid hc; clear hc
        obtain ⟨ha, hb⟩ := hc'
        go_wp2
        go_round
        case rel => exact ⟨k + 1, by omega, by go_num, fun j hj h => by
          by_cases e : j = k
          · subst e; exact HC.out
          · exact HA.out j hj (by omega)⟩
        case measure => simp [intOf]; omega
      · have hf : isLo s[k] = false := by simpa using hc
        obtain rfl : r = false := by
          cases r
          · rfl
          · have h4 := (HI.out.1 hr.out).2.2
            rw [not_all_of s isLo k hlt hf] at h4
            exact h4.symm
        have hc' : (s[k].toNat : Int) < 97 ∨ 122 < (s[k].toNat : Int) := by simp [isLo] at hc; omega
        clear hf hc
        rcases hc' with h | h
        all_goals
          go_wp2
          all_goals
            go_ret
            exact ⟨rfl, rfl⟩
    · obtain rfl : r = true := hr.out.symm.trans (HI.out.2 ⟨by omega, by omega, all_of s isLo (fun j hj => HA.out j hj (by omega))⟩)
      go_wp2
      go_ret
      exact ⟨rfl, rfl⟩
set_option maxHeartbeats 400000 in
theorem l1Name_c (s : ByteArray) (r : Bool) (hr : Hid (nameOkL s.data.toList = r)) (w : World) (hs : s.size ≤ maxLen) :
    Calls Tryd.prog 79 #[.string s] w fun e w' => e = .returned (.bool r) ∧ w = w' := by
  unfold maxLen at hs
  have hz := size_data s
  have HI : Hid (nameOkL s.data.toList = true ↔ 1 ≤ s.size ∧ s.size ≤ 3 ∧ s.data.toList.all isLo = true) := by rw [← hz]; exact nameOkL_iff _
  clear hz
  go_enter Tryd.func79, Tryd.ntmps79
  go_wp2
  go_loop [3] (fun i => ∃ k : Nat, k ≤ s.size ∧ i = .int .i64 k ∧ (∀ j (hj : j < s.size), j < k → isLo s[j] = true)) (fun i => s.size - (intOf i).toNat)
  case atStart => exact ⟨0, Nat.zero_le _, rfl, fun j _ h => absurd h (by omega)⟩
  case round =>
    obtain ⟨k, hk, rfl, hall⟩ := hrel
    have HA := Lib.hid hall; clear hall
    by_cases hlt : k < s.size
    · by_cases hc : isLo s[k] = true
      · have hc' : 97 ≤ (s[k].toNat : Int) ∧ (s[k].toNat : Int) ≤ 122 := by simp [isLo] at hc; omega
        have HC := Lib.hid hc; clear hc
        obtain ⟨ha, hb⟩ := hc'
        go_wp2
        go_round
        case rel => exact ⟨k + 1, by omega, by go_num, fun j hj h => by
          by_cases e : j = k
          · subst e; exact HC.out
          · exact HA.out j hj (by omega)⟩
        case measure => simp [intOf]; omega
      · have hf : isLo s[k] = false := by simpa using hc
        obtain rfl : r = false := by
          cases r
          · rfl
          · have h4 := (HI.out.1 hr.out).2.2
            rw [not_all_of s isLo k hlt hf] at h4
            exact h4.symm
        have hc' : (s[k].toNat : Int) < 97 ∨ 122 < (s[k].toNat : Int) := by simp [isLo] at hc; omega
        clear hf hc
        rcases hc' with h | h
        all_goals
          go_wp2
          all_goals
            go_ret
            exact ⟨rfl, rfl⟩
    · have HL : Hid (s.data.toList.all isLo = true) := all_of s isLo (fun j hj => HA.out j hj (by omega))
      by_cases h1 : 1 ≤ s.size
      · by_cases h3 : s.size ≤ 3
        · obtain rfl : r = true := hr.out.symm.trans (HI.out.2 ⟨h1, h3, HL.out⟩)
          go_wp2
          go_ret
          exact ⟨ret_bool (by simp; try omega), rfl⟩
        · obtain rfl : r = false := by
            cases r
            · rfl
            · have := HI.out.1 hr.out; omega
          go_wp2
          go_ret
          exact ⟨ret_bool (by simp; try omega), rfl⟩
      · obtain rfl : r = false := by
          cases r
          · rfl
          · have := HI.out.1 hr.out; omega
        go_wp2
        go_ret
        exact ⟨ret_bool (by simp; try omega), rfl⟩

set_option maxHeartbeats 800000 in
theorem dataOk_c (s : ByteArray) (r : Bool) (hr : Hid (dataOkL s.data.toList = r)) (w : World) (hs : s.size ≤ maxLen) :
    Calls Tryd.prog 64 #[.string s] w fun e w' => e = .returned (.bool r) ∧ w = w' := by
  unfold maxLen at hs
  have hz := size_data s
  have HI : Hid (dataOkL s.data.toList = true ↔ s.size ≤ 6 ∧ s.data.toList.all isData = true) := by rw [← hz]; exact dataOkL_iff _
  clear hz
  by_cases h6 : 6 < s.size
  · obtain rfl : r = false := by
      cases r
      · rfl
      · have := HI.out.1 hr.out; omega
    go_enter Tryd.func64, Tryd.ntmps64
    go_wp2
    go_ret; exact ⟨rfl, rfl⟩
  go_enter Tryd.func64, Tryd.ntmps64
  go_wp2
  go_loop [3] (fun i => ∃ k : Nat, k ≤ s.size ∧ i = .int .i64 k ∧ (∀ j (hj : j < s.size), j < k → isData s[j] = true)) (fun i => s.size - (intOf i).toNat)
  case atStart => exact ⟨0, Nat.zero_le _, rfl, fun j _ h => absurd h (by omega)⟩
  case round =>
    obtain ⟨k, hk, rfl, hall⟩ := hrel
    have HA := Lib.hid hall; clear hall
    by_cases hlt : k < s.size
    · by_cases hc : isData s[k] = true
      · have hc' : (48 ≤ (s[k].toNat : Int) ∧ (s[k].toNat : Int) ≤ 57) ∨ (97 ≤ (s[k].toNat : Int) ∧ (s[k].toNat : Int) ≤ 122) := by simp [isData, isLo] at hc; omega
        have HC := Lib.hid hc; clear hc
        rcases hc' with ⟨ha, hb⟩ | ⟨ha, hb⟩
        all_goals
          go_wp2
          go_round
          case rel => exact ⟨k + 1, by omega, by go_num, fun j hj h => by
            by_cases e : j = k
            · subst e; exact HC.out
            · exact HA.out j hj (by omega)⟩
          case measure => simp [intOf]; omega
      · have hf : isData s[k] = false := by simpa using hc
        obtain rfl : r = false := by
          cases r
          · rfl
          · have h4 := (HI.out.1 hr.out).2
            rw [not_all_of s isData k hlt hf] at h4
            exact h4.symm
        have hc' : (s[k].toNat : Int) < 48 ∨ (57 < (s[k].toNat : Int) ∧ (s[k].toNat : Int) < 97) ∨ 122 < (s[k].toNat : Int) := by simp [isData, isLo] at hc; omega
        clear hf hc
        rcases hc' with h | ⟨h, h'⟩ | h
        rotate_left
        · have hd : decide ((s[k].toNat : Int) ≤ 57) = false := by simp; omega
          go_wp2
          all_goals
            go_ret
            exact ⟨rfl, rfl⟩
        · have hd : decide ((s[k].toNat : Int) ≤ 57) = false := by simp; omega
          have hd' : decide ((s[k].toNat : Int) ≤ 122) = false := by simp; omega
          go_wp2
          all_goals
            go_ret
            exact ⟨rfl, rfl⟩
        all_goals
          go_wp2
          all_goals
            go_ret
            exact ⟨rfl, rfl⟩
    · have HL : Hid (s.data.toList.all isData = true) := all_of s isData (fun j hj => HA.out j hj (by omega))
      obtain rfl : r = true := hr.out.symm.trans (HI.out.2 ⟨by omega, HL.out⟩)
      go_wp2
      go_ret
      exact ⟨rfl, rfl⟩

set_option maxHeartbeats 800000 in
theorem l2Data_c (s : ByteArray) (r : Bool) (hr : Hid (dataOkL s.data.toList = r)) (w : World) (hs : s.size ≤ maxLen) :
    Calls Tryd.prog 49 #[.string s] w fun e w' => e = .returned (.bool r) ∧ w = w' := by
  unfold maxLen at hs
  have hz := size_data s
  have HI : Hid (dataOkL s.data.toList = true ↔ s.size ≤ 6 ∧ s.data.toList.all isData = true) := by rw [← hz]; exact dataOkL_iff _
  clear hz
  go_enter Tryd.func49, Tryd.ntmps49
  go_wp2
  go_loop [3] (fun i => ∃ k : Nat, k ≤ s.size ∧ i = .int .i64 k ∧ (∀ j (hj : j < s.size), j < k → isData s[j] = true)) (fun i => s.size - (intOf i).toNat)
  case atStart => exact ⟨0, Nat.zero_le _, rfl, fun j _ h => absurd h (by omega)⟩
  case round =>
    obtain ⟨k, hk, rfl, hall⟩ := hrel
    have HA := Lib.hid hall; clear hall
    by_cases hlt : k < s.size
    · by_cases hc : isData s[k] = true
      · have hc' : (48 ≤ (s[k].toNat : Int) ∧ (s[k].toNat : Int) ≤ 57) ∨ (97 ≤ (s[k].toNat : Int) ∧ (s[k].toNat : Int) ≤ 122) := by simp [isData, isLo] at hc; omega
        have HC := Lib.hid hc; clear hc
        rcases hc' with ⟨ha, hb⟩ | ⟨ha, hb⟩
        all_goals
          go_wp2
          go_round
          case rel => exact ⟨k + 1, by omega, by go_num, fun j hj h => by
            by_cases e : j = k
            · subst e; exact HC.out
            · exact HA.out j hj (by omega)⟩
          case measure => simp [intOf]; omega
      · have hf : isData s[k] = false := by simpa using hc
        obtain rfl : r = false := by
          cases r
          · rfl
          · have h4 := (HI.out.1 hr.out).2
            rw [not_all_of s isData k hlt hf] at h4
            exact h4.symm
        have hc' : (s[k].toNat : Int) < 48 ∨ (57 < (s[k].toNat : Int) ∧ (s[k].toNat : Int) < 97) ∨ 122 < (s[k].toNat : Int) := by simp [isData, isLo] at hc; omega
        clear hf hc
        rcases hc' with h | ⟨h, h'⟩ | h
        rotate_left
        · have hd : decide ((s[k].toNat : Int) ≤ 57) = false := by simp; omega
          go_wp2
          all_goals
            go_ret
            exact ⟨rfl, rfl⟩
        · have hd : decide ((s[k].toNat : Int) ≤ 57) = false := by simp; omega
          have hd' : decide ((s[k].toNat : Int) ≤ 122) = false := by simp; omega
          go_wp2
          all_goals
            go_ret
            exact ⟨rfl, rfl⟩
        all_goals
          go_wp2
          all_goals
            go_ret
            exact ⟨rfl, rfl⟩
    · have HL : Hid (s.data.toList.all isData = true) := all_of s isData (fun j hj => HA.out j hj (by omega))
      by_cases h6 : 6 < s.size
      · obtain rfl : r = false := by
          cases r
          · rfl
          · have := HI.out.1 hr.out; omega
        go_wp2
        go_ret
        exact ⟨ret_bool (by simp; try omega), rfl⟩
      · obtain rfl : r = true := hr.out.symm.trans (HI.out.2 ⟨by omega, HL.out⟩)
        go_wp2
        go_ret
        exact ⟨ret_bool (by simp; try omega), rfl⟩
end Go.Proofs.YtobbodbkdcbflaaDoor
namespace Go.Proofs
open Go.Shelf
def Tryd.lays156_ren : Go.Shelf.Ren := ⟨fun | 156 => 67 | 165 => 87 | 166 => 88 | 169 => 89 | 240 => 96 | 241 => 97 | 276 => 108 | 277 => 109 | n => n, fun | 31 => 54 | 9 => 9 | 3 => 3 | 4 => 4 | 0 => 0 | 20 => 20 | 72 => 96 | 76 => 100 | 70 => 94 | 37 => 22 | 75 => 99 | 127 => 107 | 164 => 113 | 5 => 5 | 80 => 102 | n => n, fun | n => n⟩
theorem Tryd.lays156 : Go.Proofs.Lays.n156 Tryd.prog Tryd.lays156_ren := {
  mixed := by kernel_rfl
  f156 := Tryd.func67.trans (congrArg some (by kernel_rfl))
  f165 := Tryd.func87.trans (congrArg some (by kernel_rfl))
  f166 := Tryd.func88.trans (congrArg some (by kernel_rfl))
  f169 := Tryd.func89.trans (congrArg some (by kernel_rfl))
  f240 := Tryd.func96.trans (congrArg some (by kernel_rfl))
  f241 := Tryd.func97.trans (congrArg some (by kernel_rfl))
  f276 := Tryd.func108.trans (congrArg some (by kernel_rfl))
  f277 := Tryd.func109.trans (congrArg some (by kernel_rfl))
  t0 := Tryd.underlying0
  a0 := Tryd.isAgg0
  z0 := Tryd.sizeOf0
  v0 := Tryd.zeroValue0
  t3 := Tryd.underlying3
  a3 := Tryd.isAgg3
  z3 := Tryd.sizeOf3
  v3 := Tryd.zeroValue3
  t4 := Tryd.underlying4
  a4 := Tryd.isAgg4
  z4 := Tryd.sizeOf4
  v4 := Tryd.zeroValue4
  t9 := Tryd.underlying9
  a9 := Tryd.isAgg9
  z9 := Tryd.sizeOf9
  v9 := Tryd.zeroValue9
  t20 := Tryd.underlying20
  a20 := Tryd.isAgg20
  z20 := Tryd.sizeOf20
  v20 := Tryd.zeroValue20
  t31 := Tryd.underlying54
  a31 := Tryd.isAgg54
  z31 := Tryd.sizeOf54
  v31 := Tryd.zeroValue54
  t37 := Tryd.underlying22
  a37 := Tryd.isAgg22
  z37 := Tryd.sizeOf22
  v37 := Tryd.zeroValue22
  t70 := Tryd.underlying94
  a70 := Tryd.isAgg94
  z70 := Tryd.sizeOf94
  v70 := Tryd.zeroValue94
  t72 := Tryd.underlying96
  a72 := Tryd.isAgg96
  z72 := Tryd.sizeOf96
  v72 := Tryd.zeroValue96
  t75 := Tryd.underlying99
  a75 := Tryd.isAgg99
  z75 := Tryd.sizeOf99
  v75 := Tryd.zeroValue99
  t76 := Tryd.underlying100
  a76 := Tryd.isAgg100
  z76 := Tryd.sizeOf100
  v76 := Tryd.zeroValue100
  t127 := Tryd.underlying107
  a127 := Tryd.isAgg107
  z127 := Tryd.sizeOf107
  v127 := Tryd.zeroValue107
  t164 := Tryd.underlying113
  a164 := Tryd.isAgg113
  z164 := Tryd.sizeOf113
  v164 := Tryd.zeroValue113 }
theorem Tryd.Builder_Extra_156 : Builder.Extra Tryd.prog Tryd.lays156_ren := {
  sizeBuilder := by kernel_rfl
  liesBuilder := by kernel_rfl
  t5 := Tryd.underlying5
  a5 := Tryd.isAgg5
  z5 := Tryd.sizeOf5
  v5 := Tryd.zeroValue5
  infoByte := by kernel_rfl
  cellsByte := by kernel_rfl
  sizeByte := by kernel_rfl
  neB5 := by decide }
open Go.RowKit in
/-- strings.Join: "Join concatenates the elements of its first argument to create a single string. The separator string sep is placed between elements in the resulting string.": HOWEVER MANY ELEMENTS. Below the heap's end the world is as it was. (LAID: no walk: one application.) -/
theorem Tryd.strings_Join (bk o c : Nat) (xs : List ByteArray) (sep : ByteArray) (w : World) (hcells : ∀ (j : Nat) x, xs[j]? = some x → w.cell? ⟨bk, o + j, none⟩ = some (.string x)) (hbk : bk < w.heap.size) (hN : xs.length ≤ 140737488355328) (hcap : xs.length ≤ c) (hlen : (Lib.join (xs.map (·.data.toList)) sep.data.toList).length ≤ 140737488355328) :
    Calls Tryd.prog 67 #[.slice (some ⟨bk, o, none⟩) xs.length c, .string sep] w fun e w' => e = .returned (.string ⟨(Lib.join (xs.map (·.data.toList)) sep.data.toList).toArray⟩) ∧ Below w.heap.size w w' := Any.strings_Join Tryd.lays156 Tryd.Builder_Extra_156 bk o c xs sep w hcells hbk hN hcap hlen
def Tryd.lays143_ren : Go.Shelf.Ren := ⟨fun | 143 => 107 | 219 => 115 | 217 => 117 | 225 => 118 | 224 => 119 | 267 => 120 | 266 => 121 | 314 => 122 | n => n, fun | 9 => 9 | 3 => 3 | 4 => 4 | 5 => 5 | 46 => 120 | 146 => 126 | 51 => 125 | n => n, fun | 1 => 0 | n => n⟩
theorem Tryd.lays143 : Go.Proofs.Lays.n143 Tryd.prog Tryd.lays143_ren := {
  mixed := by kernel_rfl
  f143 := Tryd.func107.trans (congrArg some (by kernel_rfl))
  f217 := Tryd.func117.trans (congrArg some (by kernel_rfl))
  f219 := Tryd.func115.trans (congrArg some (by kernel_rfl))
  f224 := Tryd.func119.trans (congrArg some (by kernel_rfl))
  f225 := Tryd.func118.trans (congrArg some (by kernel_rfl))
  f266 := Tryd.func121.trans (congrArg some (by kernel_rfl))
  f267 := Tryd.func120.trans (congrArg some (by kernel_rfl))
  f314 := Tryd.func122.trans (congrArg some (by kernel_rfl))
  t3 := Tryd.underlying3
  a3 := Tryd.isAgg3
  z3 := Tryd.sizeOf3
  v3 := Tryd.zeroValue3
  t4 := Tryd.underlying4
  a4 := Tryd.isAgg4
  z4 := Tryd.sizeOf4
  v4 := Tryd.zeroValue4
  t5 := Tryd.underlying5
  a5 := Tryd.isAgg5
  z5 := Tryd.sizeOf5
  v5 := Tryd.zeroValue5
  t9 := Tryd.underlying9
  a9 := Tryd.isAgg9
  z9 := Tryd.sizeOf9
  v9 := Tryd.zeroValue9
  t46 := Tryd.underlying120
  a46 := Tryd.isAgg120
  z46 := Tryd.sizeOf120
  v46 := Tryd.zeroValue120
  t51 := Tryd.underlying125
  a51 := Tryd.isAgg125
  z51 := Tryd.sizeOf125
  v51 := Tryd.zeroValue125
  t146 := Tryd.underlying126
  a146 := Tryd.isAgg126
  z146 := Tryd.sizeOf126
  v146 := Tryd.zeroValue126
  g1 := by kernel_rfl }
open Go.RowKit Go.Lib in
/-- strings.Index: "Index returns the index of the first instance of substr in s, or -1 if substr is not present in s.": AT A substr OF ONE BYTE c: IT RETURNS 'Lib.indexByte s c'; the world is as it was. (LAID: no walk: one application.) -/
theorem Tryd.strings_Index_one (s : ByteArray) (c : UInt8) (w : World) :
    Calls Tryd.prog 107 #[.string s, .string ⟨#[c]⟩] w fun e w' => e = .returned (.int .i64 (Lib.indexByte s.data.toList c)) ∧ w' = w := Any.strings_Index_one Tryd.lays143 s c w
def Tryd.lays138_ren : Go.Shelf.Ren := ⟨fun | 138 => 106 | 195 => 112 | 218 => 114 | 143 => 107 | 219 => 115 | 217 => 117 | 225 => 118 | 224 => 119 | 267 => 120 | 266 => 121 | 314 => 122 | n => n, fun | 9 => 9 | 3 => 3 | 4 => 4 | 5 => 5 | 0 => 0 | 46 => 120 | 146 => 126 | 51 => 125 | n => n, fun | 1 => 0 | n => n⟩
theorem Tryd.lays138 : Go.Proofs.Lays.n138 Tryd.prog Tryd.lays138_ren := {
  mixed := by kernel_rfl
  f138 := Tryd.func106.trans (congrArg some (by kernel_rfl))
  f143 := Tryd.func107.trans (congrArg some (by kernel_rfl))
  f195 := Tryd.func112.trans (congrArg some (by kernel_rfl))
  f217 := Tryd.func117.trans (congrArg some (by kernel_rfl))
  f218 := Tryd.func114.trans (congrArg some (by kernel_rfl))
  f219 := Tryd.func115.trans (congrArg some (by kernel_rfl))
  f224 := Tryd.func119.trans (congrArg some (by kernel_rfl))
  f225 := Tryd.func118.trans (congrArg some (by kernel_rfl))
  f266 := Tryd.func121.trans (congrArg some (by kernel_rfl))
  f267 := Tryd.func120.trans (congrArg some (by kernel_rfl))
  f314 := Tryd.func122.trans (congrArg some (by kernel_rfl))
  t0 := Tryd.underlying0
  a0 := Tryd.isAgg0
  z0 := Tryd.sizeOf0
  v0 := Tryd.zeroValue0
  t3 := Tryd.underlying3
  a3 := Tryd.isAgg3
  z3 := Tryd.sizeOf3
  v3 := Tryd.zeroValue3
  t4 := Tryd.underlying4
  a4 := Tryd.isAgg4
  z4 := Tryd.sizeOf4
  v4 := Tryd.zeroValue4
  t5 := Tryd.underlying5
  a5 := Tryd.isAgg5
  z5 := Tryd.sizeOf5
  v5 := Tryd.zeroValue5
  t9 := Tryd.underlying9
  a9 := Tryd.isAgg9
  z9 := Tryd.sizeOf9
  v9 := Tryd.zeroValue9
  t46 := Tryd.underlying120
  a46 := Tryd.isAgg120
  z46 := Tryd.sizeOf120
  v46 := Tryd.zeroValue120
  t51 := Tryd.underlying125
  a51 := Tryd.isAgg125
  z51 := Tryd.sizeOf125
  v51 := Tryd.zeroValue125
  t146 := Tryd.underlying126
  a146 := Tryd.isAgg126
  z146 := Tryd.sizeOf126
  v146 := Tryd.zeroValue126
  g1 := by kernel_rfl }
open Go.RowKit Go.Lib in
/-- strings.Count AT A substr OF ONE BYTE ('hp'): "Count counts the number of non-overlapping instances of substr in s.": IT RETURNS 'Lib.countByte s (that byte)'; the world is as it was. ✋ NO CONTRACT HERE YET at an empty substr (utf8.RuneCountInString) or at a longer one (a loop over strings.Index). (LAID: no walk: one application.) -/
theorem Tryd.strings_Count_one (s : ByteArray) (c : UInt8) (w : World) :
    Calls Tryd.prog 106 #[.string s, .string ⟨#[c]⟩] w fun e w' => e = .returned (.int .i64 (Lib.countByte s.data.toList c)) ∧ w' = w := Any.strings_Count_one Tryd.lays138 s c w
def Tryd.lays99_ren : Go.Shelf.Ren := ⟨fun | 99 => 55 | 206 => 82 | n => n, fun | 9 => 9 | 4 => 4 | 3 => 3 | n => n, fun | n => n⟩
theorem Tryd.lays99 : Go.Proofs.Lays.n99 Tryd.prog Tryd.lays99_ren := {
  mixed := by kernel_rfl
  f99 := Tryd.func55.trans (congrArg some (by kernel_rfl))
  f206 := Tryd.func82.trans (congrArg some (by kernel_rfl))
  t3 := Tryd.underlying3
  a3 := Tryd.isAgg3
  z3 := Tryd.sizeOf3
  v3 := Tryd.zeroValue3
  t4 := Tryd.underlying4
  a4 := Tryd.isAgg4
  z4 := Tryd.sizeOf4
  v4 := Tryd.zeroValue4
  t9 := Tryd.underlying9
  a9 := Tryd.isAgg9
  z9 := Tryd.sizeOf9
  v9 := Tryd.zeroValue9 }
open Go.RowKit Go.Lib in
/-- strings.HasPrefix: "HasPrefix reports whether the string s begins with prefix.": IT RETURNS 'Lib.hasPrefix s prefix'; the world is as it was. (LAID: no walk: one application.) -/
theorem Tryd.strings_HasPrefix (s p : ByteArray) (w : World) :
    Calls Tryd.prog 55 #[.string s, .string p] w fun e w' => e = .returned (.bool (Lib.hasPrefix s.data.toList p.data.toList)) ∧ w' = w := Any.strings_HasPrefix Tryd.lays99 s p w
def Tryd.lays221_ren : Go.Shelf.Ren := ⟨fun | 221 => 95 | 268 => 105 | 138 => 106 | 143 => 107 | 195 => 112 | 197 => 113 | 218 => 114 | 219 => 115 | 260 => 116 | 217 => 117 | 225 => 118 | 224 => 119 | 267 => 120 | 266 => 121 | 314 => 122 | n => n, fun | 9 => 9 | 3 => 3 | 31 => 54 | 4 => 4 | 0 => 0 | 105 => 117 | 21 => 21 | 5 => 5 | 46 => 120 | 119 => 121 | 139 => 124 | 138 => 123 | 146 => 126 | 51 => 125 | n => n, fun | 1 => 0 | 3 => 1 | 4 => 2 | n => n⟩
theorem Tryd.lays221 : Go.Proofs.Lays.n221 Tryd.prog Tryd.lays221_ren := {
  mixed := by kernel_rfl
  f138 := Tryd.func106.trans (congrArg some (by kernel_rfl))
  f143 := Tryd.func107.trans (congrArg some (by kernel_rfl))
  f195 := Tryd.func112.trans (congrArg some (by kernel_rfl))
  f197 := Tryd.func113.trans (congrArg some (by kernel_rfl))
  f217 := Tryd.func117.trans (congrArg some (by kernel_rfl))
  f218 := Tryd.func114.trans (congrArg some (by kernel_rfl))
  f219 := Tryd.func115.trans (congrArg some (by kernel_rfl))
  f221 := Tryd.func95.trans (congrArg some (by kernel_rfl))
  f224 := Tryd.func119.trans (congrArg some (by kernel_rfl))
  f225 := Tryd.func118.trans (congrArg some (by kernel_rfl))
  f260 := Tryd.func116.trans (congrArg some (by kernel_rfl))
  f266 := Tryd.func121.trans (congrArg some (by kernel_rfl))
  f267 := Tryd.func120.trans (congrArg some (by kernel_rfl))
  f268 := Tryd.func105.trans (congrArg some (by kernel_rfl))
  f314 := Tryd.func122.trans (congrArg some (by kernel_rfl))
  t0 := Tryd.underlying0
  a0 := Tryd.isAgg0
  z0 := Tryd.sizeOf0
  v0 := Tryd.zeroValue0
  t3 := Tryd.underlying3
  a3 := Tryd.isAgg3
  z3 := Tryd.sizeOf3
  v3 := Tryd.zeroValue3
  t4 := Tryd.underlying4
  a4 := Tryd.isAgg4
  z4 := Tryd.sizeOf4
  v4 := Tryd.zeroValue4
  t5 := Tryd.underlying5
  a5 := Tryd.isAgg5
  z5 := Tryd.sizeOf5
  v5 := Tryd.zeroValue5
  t9 := Tryd.underlying9
  a9 := Tryd.isAgg9
  z9 := Tryd.sizeOf9
  v9 := Tryd.zeroValue9
  t21 := Tryd.underlying21
  a21 := Tryd.isAgg21
  z21 := Tryd.sizeOf21
  v21 := Tryd.zeroValue21
  t31 := Tryd.underlying54
  a31 := Tryd.isAgg54
  z31 := Tryd.sizeOf54
  v31 := Tryd.zeroValue54
  t46 := Tryd.underlying120
  a46 := Tryd.isAgg120
  z46 := Tryd.sizeOf120
  v46 := Tryd.zeroValue120
  t51 := Tryd.underlying125
  a51 := Tryd.isAgg125
  z51 := Tryd.sizeOf125
  v51 := Tryd.zeroValue125
  t105 := Tryd.underlying117
  a105 := Tryd.isAgg117
  z105 := Tryd.sizeOf117
  v105 := Tryd.zeroValue117
  t119 := Tryd.underlying121
  a119 := Tryd.isAgg121
  z119 := Tryd.sizeOf121
  t138 := Tryd.underlying123
  a138 := Tryd.isAgg123
  z138 := Tryd.sizeOf123
  v138 := Tryd.zeroValue123
  t139 := Tryd.underlying124
  a139 := Tryd.isAgg124
  z139 := Tryd.sizeOf124
  v139 := Tryd.zeroValue124
  t146 := Tryd.underlying126
  a146 := Tryd.isAgg126
  z146 := Tryd.sizeOf126
  v146 := Tryd.zeroValue126
  g1 := by kernel_rfl
  g3 := by kernel_rfl
  g4 := by kernel_rfl }
end Go.Proofs
namespace Go.Proofs.YtobbodbkdcbflaaDoor
open Go.RowKit
theorem index_cons {x : UInt8} {r : Bs} (h : x ≠ 47) (hr : Lib.indexByte r 47 ≠ -1) : Lib.indexByte (x :: r) 47 = Lib.indexByte r 47 + 1 := by
  rw [Lib.indexByte, if_neg (by simpa using h), if_neg (by simpa using hr)]
theorem index_ne {r : Bs} (h : 0 < r.count 47) : Lib.indexByte r 47 ≠ -1 := by
  intro e
  have := Lib.indexByte_none e
  have hm : (47 : UInt8) ∈ r := List.count_pos_iff.1 h
  obtain ⟨k, hk⟩ := List.getElem?_of_mem hm
  exact this k hk
theorem splitK_cut (l : Bs) : Lib.splitK [47] 0 (l.count 47) l = cutL l := by
  induction l with
  | nil => rfl
  | cons x r ih =>
    by_cases h : x = 47
    · subst h
      have hc : (47 :: r : Bs).count 47 = r.count 47 + 1 := by simp
      have hi : Lib.index (47 :: r) [47] = 0 := by rw [Lib.index_one]; simp [Lib.indexByte]
      rw [hc, Lib.splitK, hi]
      simp [cutL, ih]
    · have hc : (x :: r : Bs).count 47 = r.count 47 := by rw [List.count_cons]; simp [h]
      rw [hc]
      rw [cutL, if_neg h, ← ih]
      by_cases h0 : r.count 47 = 0
      · rw [h0]; simp [Lib.splitK]
      · obtain ⟨k, hk⟩ : ∃ k, r.count 47 = k + 1 := ⟨r.count 47 - 1, by omega⟩
        have hn := index_ne (r := r) (by omega)
        have hg := Lib.indexByte_ge r 47
        obtain ⟨i, hi⟩ : ∃ i : Nat, Lib.indexByte r 47 = i := ⟨(Lib.indexByte r 47).toNat, by omega⟩
        have hx : Lib.indexByte (x :: r) 47 = ((i + 1 : Nat) : Int) := by rw [index_cons h hn, hi]; rfl
        rw [hk]
        have e1 : ¬ ((((i + 1 : Nat) : Int) == -1) = true) := by simp; omega
        have e2 : ¬ (((i : Int) == -1) = true) := by simp
        simp only [Lib.splitK, Lib.index_one, hx, hi, if_neg e1, if_neg e2, Int.toNat_natCast, Nat.add_zero, List.take_succ_cons, List.length_singleton, List.drop_succ_cons]
theorem maps_inj {a b : List ByteArray} (h : a.map (·.data.toList) = b.map (·.data.toList)) : a = b := by
  induction a generalizing b with
  | nil => cases b <;> simp_all
  | cons x r ih =>
    cases b with
    | nil => simp at h
    | cons y s =>
      simp only [List.map_cons, List.cons.injEq] at h
      rw [bytes_eq h.1, ih h.2]
set_option maxHeartbeats 1000000 in
theorem split_c (s : ByteArray) (ps : List ByteArray) (hps : Hid (ps.map (·.data.toList) = cutL s.data.toList)) (w : World) (hs : s.size ≤ 1000000) :
    Calls Tryd.prog 86 #[.string s, .string ⟨#[47]⟩] w fun e w' => e = .returned (.slice (some ⟨w.heap.size, 0, none⟩) ps.length ps.length) ∧ w.alloc (.cells (ps.map Value.string).toArray 9) = w' := by
  have hcount : Lib.countB s ⟨#[47]⟩ = s.data.toList.count 47 := by
    show Lib.count s.data.toList [47] = _
    rw [Lib.count_one]
  have hB : Lib.splitB ⟨#[47]⟩ 0 (Lib.countB s ⟨#[47]⟩) s = ps := maps_inj (by rw [Lib.splitB_data, hcount, hps.out]; exact splitK_cut _)
  have hlen := Lib.splitB_all ⟨#[47]⟩ (by decide) 0 _ s rfl
  have hle := Lib.countB_le ⟨#[47]⟩ (by decide) s.size s (Nat.le_refl _)
  have c := Any.strings_genSplit_core Tryd.lays221 (by kernel_rfl) s ⟨#[47]⟩ 0 (-1) (Lib.countB s ⟨#[47]⟩ + 1) w (by omega) (by decide) (Nat.zero_le _)
    (fun x c _ => (Tryd.strings_Index_one x 47 _).mono fun e w' ⟨he, hw⟩ => ⟨by rw [he, ← Lib.index_one], hw⟩)
    ((Tryd.strings_Count_one s 47 w).mono fun e w' ⟨he, hw⟩ => ⟨by rw [he, hcount]; rfl, hw⟩)
    (by decide) (by decide) (by rw [if_pos (by decide)]; omega)
  rw [Nat.add_sub_cancel, hlen] at c
  have e2 : Lib.cellsOf (Lib.splitB ⟨#[47]⟩ 0 (Lib.countB s ⟨#[47]⟩) s) (Lib.countB s ⟨#[47]⟩ + 1) = ((Lib.splitB ⟨#[47]⟩ 0 (Lib.countB s ⟨#[47]⟩) s).map Value.string).toArray := by rw [← hlen]; exact Lib.cellsOf_full _
  rw [e2] at c
  rw [hB] at c hlen
  rw [← hlen] at c
  change Calls Tryd.prog 95 _ _ _ at c
  clear e2 hB hlen hle hcount hps
  go_enter Tryd.func86, Tryd.ntmps86
  go_wp2_with (go_at_call 95; refine c.mono ?_; rintro e w' ⟨rfl, rfl⟩)
  go_ret
  exact ⟨rfl, rfl⟩
end Go.Proofs.YtobbodbkdcbflaaDoor
namespace Go.Proofs.YtobbodbkdcbflaaDoor
open Go.RowKit
theorem strElt : Elt Tryd.prog 54 9 1 16 := by
  obtain ⟨i, h1, h2, h3, h4⟩ := info_parts (show (Tryd.prog.info? 9).map (fun i => (i.zero, i.size, i.bytes)) = some (some (.string ByteArray.empty), 1, 16) by kernel_rfl)
  exact ⟨Tryd.underlying54, ⟨i, _, h1, h2, h3, h4, rfl⟩, by decide, by decide⟩
theorem cut_snoc47 (l : Bs) : cutL (l ++ [47]) = cutL l ++ [[]] := by
  induction l with
  | nil => rfl
  | cons x r ih =>
    rw [List.cons_append]
    by_cases h : x = 47
    · subst h; simp [cutL, ih]
    · rw [cutL, if_neg h, cutL, if_neg h, ih]
      cases hc : cutL r with
      | nil => exact absurd hc (cutL_ne r)
      | cons p ps => simp
theorem cut_snoc (l : Bs) (c : UInt8) (h : c ≠ 47) (d : List Bs) (p : Bs) (hc : cutL l = d ++ [p]) : cutL (l ++ [c]) = d ++ [p ++ [c]] := by
  induction l generalizing d p with
  | nil =>
    rw [show cutL [] = [[]] from rfl] at hc
    cases d with
    | nil => simp at hc; subst hc; simp [cutL, h]
    | cons y d => simp at hc
  | cons x r ih =>
    rw [List.cons_append]
    by_cases hx : x = 47
    · subst hx
      rw [cutL, if_pos rfl] at hc ⊢
      cases d with
      | nil => simp at hc; exact absurd hc.2 (cutL_ne r)
      | cons y d =>
        simp only [List.cons_append, List.cons.injEq] at hc ⊢
        exact ⟨hc.1, ih d p hc.2⟩
    · rw [cutL, if_neg hx] at hc ⊢
      cases hr : cutL r with
      | nil => exact absurd hr (cutL_ne r)
      | cons q qs =>
        rw [hr] at hc
        simp only at hc
        cases d with
        | nil =>
          simp only [List.nil_append, List.cons.injEq] at hc
          obtain ⟨rfl, rfl⟩ := hc
          rw [ih [] q (by rw [hr]; rfl)]
          rfl
        | cons y d =>
          simp only [List.cons_append, List.cons.injEq] at hc
          obtain ⟨rfl, rfl⟩ := hc
          rw [ih (q :: d) p (by rw [hr]; rfl)]
          rfl
/-- What has been cut when k bytes have been seen: the pieces, and where the last one begins. -/
def Seen (s : ByteArray) (k f : Nat) (d : List ByteArray) : Prop := f ≤ k ∧ cutL (s.data.toList.take k) = d.map (·.data.toList) ++ [(s.data.toList.take k).drop f] ∧ d.length ≤ k
theorem take_more (s : ByteArray) (k : Nat) (h : k < s.size) : s.data.toList.take (k + 1) = s.data.toList.take k ++ [s[k]] := by
  rw [List.take_succ_eq_append_getElem (by simpa using h)]; rfl
theorem seen_zero (s : ByteArray) : Seen s 0 0 [] := ⟨Nat.le_refl _, by simp [cutL], by simp⟩
theorem seen_on {s : ByteArray} {k f : Nat} {d : List ByteArray} (h : Seen s k f d) (hk : k < s.size) (hc : s[k] ≠ 47) : Seen s (k + 1) f d := by
  obtain ⟨h1, h2, h3⟩ := h
  refine ⟨by omega, ?_, by omega⟩
  rw [take_more s k hk, cut_snoc _ _ hc _ _ h2]
  rw [List.drop_append_of_le_length (by simp; omega)]
theorem ext_data (s : ByteArray) (f k : Nat) : (s.extract f k).data.toList = (s.data.toList.take k).drop f := by
  rw [Lib.extract_data, List.drop_take]
theorem seen_cut {s : ByteArray} {k f : Nat} {d : List ByteArray} (h : Seen s k f d) (hk : k < s.size) (hc : s[k] = 47) : Seen s (k + 1) (k + 1) (d ++ [s.extract f k]) := by
  obtain ⟨h1, h2, h3⟩ := h
  refine ⟨Nat.le_refl _, ?_, by simp; omega⟩
  rw [take_more s k hk, hc, cut_snoc47, h2, List.map_append, List.map_cons, List.map_nil, ext_data]
  congr 1
  rw [List.drop_eq_nil_of_le (by simp; omega)]
theorem seen_end {s : ByteArray} {f : Nat} {d : List ByteArray} (h : Seen s s.size f d) : (d ++ [s.extract f s.size]).map (·.data.toList) = cutL s.data.toList := by
  obtain ⟨h1, h2, h3⟩ := h
  rw [← size_data, List.take_length] at h2
  rw [h2, List.map_append, List.map_cons, List.map_nil, ext_data, ← size_data, List.take_length]
def CutPost (s : ByteArray) (w : World) (e : Ending) (w' : World) : Prop :=
  ∃ (v : Value) (ps : List ByteArray), e = .returned v ∧ ps.map (·.data.toList) = cutL s.data.toList ∧ w'.ownsRow w.heap.size 9 1 v ps.length (ps.map Value.string) ∧ Below w.heap.size w w'
set_option maxHeartbeats 1000000 in
theorem l10Cut_c (s : ByteArray) (w : World) (hs : s.size ≤ 1000) :
    Calls Tryd.prog 91 #[.string s, .int .u8 47] w (CutPost s w) := by
  have HE := strElt
  go_enter Tryd.func91, Tryd.ntmps91
  go_wp2
  go_loopw [5, 6, 7] (fun v f i wr => ∃ (k : Nat) (fn : Nat) (d : List ByteArray), i = .int .i64 k ∧ f = .int .i64 fn ∧ wr.ownsRow w.heap.size 9 1 v d.length (d.map Value.string) ∧ Below w.heap.size w wr ∧
      ((k ≤ s.size ∧ Seen s k fn d) ∨ (k = s.size + 1 ∧ d.map (·.data.toList) = cutL s.data.toList))) (fun _ _ i _ => s.size + 1 - (intOf i).toNat)
  case atStart =>
    exact ⟨0, 0, [], rfl, rfl, World.ownsRow_lit w #[] 0 (Nat.le_refl _) (Nat.zero_le _) rfl, bellow_alloc _ _, .inl ⟨Nat.zero_le _, seen_zero s⟩⟩
  case round =>
    obtain ⟨k, fn, d, rfl, rfl, hown, hbel, hst⟩ := hrel
    rcases hst with ⟨hk, hseen⟩ | ⟨hk, hdone⟩
    · have hf := hseen.1
      have hdl := hseen.2.2
      by_cases hlt : k < s.size
      · have hke : ((k : Int) == (s.size : Int)) = false := by rw [beq_eq_false_iff_ne]; omega
        by_cases hc : s[k] = 47
        · have hz : ((s[k].toNat : Int) == 47) = true := by rw [hc]; rfl
          have HS := Lib.hid (seen_cut hseen hlt hc)
          clear hseen hc
          go_wp2_with (at_builtin; go_must (refine wp_app1 (by rfl) _ _ 54 (by rfl) HE w.heap.size w.heap.size w wr #[.string (s.extract fn k)] _ _ _ (by rfl) (by rfl) hown (by rfl) (by simp [Value.oneCell']) (by omega) hbel.size hbel (Nat.le_refl _) ?_); intro v' w1 hown1 hbel1 _ _)
          go_roundw
          case rel => exact ⟨k + 1, k + 1, d ++ [s.extract fn k], by go_num, by go_num, by simpa using hown1, hbel1, .inl ⟨by omega, HS.out⟩⟩
          case measure => simp [intOf]; omega
        · have hz : ((s[k].toNat : Int) == 47) = false := by
            rw [beq_eq_false_iff_ne]; intro h; exact hc (UInt8.toNat_inj.1 (by simpa using Int.ofNat.inj h))
          have HS := Lib.hid (seen_on hseen hlt hc)
          clear hseen hc
          go_wp2
          go_roundw
          case rel => exact ⟨k + 1, fn, d, by go_num, rfl, hown, hbel, .inl ⟨by omega, HS.out⟩⟩
          case measure => simp [intOf]; omega
      · obtain rfl : k = s.size := by omega
        have HS := Lib.hid (seen_end hseen)
        clear hseen
        go_wp2_with (at_builtin; refine wp_app1 (by rfl) _ _ 54 (by rfl) HE w.heap.size w.heap.size w wr #[.string (s.extract fn s.size)] _ _ _ (by rfl) (by rfl) hown (by rfl) (by simp [Value.oneCell']) (by omega) hbel.size hbel (Nat.le_refl _) ?_; intro v' w1 hown1 hbel1 _ _)
        go_roundw
        case rel => exact ⟨s.size + 1, s.size + 1, d ++ [s.extract fn s.size], by go_num, by go_num, by simpa using hown1, hbel1, .inr ⟨rfl, HS.out⟩⟩
        case measure => simp [intOf]
    · subst hk
      have HD := Lib.hid hdone
      clear hdone
      go_wp2
      go_ret
      exact ⟨_, d, rfl, HD.out, hown, hbel⟩
end Go.Proofs.YtobbodbkdcbflaaDoor
namespace Go.Proofs.YtobbodbkdcbflaaDoor
open Go.RowKit
theorem strs_cell (w : World) (ps : List ByteArray) (t : TypeId) (k : Nat) (h : k < ps.length) : (w.alloc (.cells (ps.map Value.string).toArray t)).cell? ⟨w.heap.size, k, none⟩ = some (.string (ps[k]?.getD ByteArray.empty)) := by
  rw [cell_of_row _ _ k _ t (0, 0) (heap_alloc_new w _)]
  simp [h]
theorem head_of (s : ByteArray) (h : 0 < s.size) : s.data.toList.head? = some s[0] := by
  have := get_data s 0 h
  rw [List.head?_eq_getElem?]; exact this
theorem tail_of (s : ByteArray) : (s.extract 1 s.size).data.toList = s.data.toList.tail := by
  rw [Lib.extract_to_end, List.drop_one]
theorem pathOk_parts (l : Bs) : pathOkL l = true ↔ l.length ≤ 12 ∧ l.head? = some 47 ∧ (cutL l.tail).length ≤ 3 ∧ ∀ n ∈ cutL l.tail, nameOkL n = true := by
  simp [pathOkL, and_assoc]
theorem strs_of (l : List Bs) : ∃ ps : List ByteArray, ps.map (·.data.toList) = l := ⟨l.map fun x => ⟨x.toArray⟩, by simp [Function.comp_def]⟩
theorem cut_len {l n : Bs} (h : n ∈ cutL l) : n.length ≤ l.length := by
  induction l generalizing n with
  | nil => simp [cutL] at h; simp [h]
  | cons x r ih =>
    unfold cutL at h
    split at h
    · rcases List.mem_cons.1 h with h | h
      · simp [h]
      · have := ih h; simp; omega
    · split at h
      · simp at h; simp [h]
      · next p ps hc =>
        rcases List.mem_cons.1 h with h | h
        · have := ih (n := p) (by rw [hc]; simp); simp [h]; omega
        · have := ih (n := n) (by rw [hc]; simp [h]); simp; omega
set_option maxHeartbeats 1000000 in
theorem pathNames_no (s : ByteArray) (hr : Hid (pathOkL s.data.toList = false)) (w : World) (hs : s.size ≤ maxLen) :
    Calls Tryd.prog 66 #[.string s] w fun e w' => e = .returned (.tuple #[.slice none 0 0, .bool false]) ∧ Below w.heap.size w w' := by
  unfold maxLen at hs
  by_cases h0 : s.size = 0
  · obtain ⟨⟨l⟩⟩ := s
    have : l = [] := List.eq_nil_of_length_eq_zero h0
    subst this
    clear hr h0
    go_enter Tryd.func66, Tryd.ntmps66
    go_wp2
    go_ret2
    exact ⟨rfl, Below.refl _ _⟩
  have h1 : 0 < s.size := by omega
  have hne : s.toList.isEmpty = false := by rw [Lib.toList_data]; have := size_data s; cases h : s.data.toList with
    | nil => rw [h] at this; simp at this; omega
    | cons _ _ => rfl
  have HP : Hid (pathOkL s.data.toList = true ↔ s.size ≤ 12 ∧ s[0] = 47 ∧ (cutL s.data.toList.tail).length ≤ 3 ∧ ∀ n ∈ cutL s.data.toList.tail, nameOkL n = true) := by
    have := pathOk_parts s.data.toList
    rw [head_of s h1, size_data s] at this
    simp only [Option.some.injEq] at this; exact this
  by_cases h47 : s[0] = 47
  · by_cases h12 : 12 < s.size
    · have hz : (s[0].toNat : Int) = 47 := by rw [h47]; rfl
      clear hr HP h47
      go_enter Tryd.func66, Tryd.ntmps66
      go_wp2
      go_ret2
      exact ⟨rfl, Below.refl _ _⟩
    · obtain ⟨ps, hps⟩ := strs_of (cutL s.data.toList.tail)
      have Hps : Hid (ps.map (·.data.toList) = cutL (s.extract 1 s.size).data.toList) := by rw [tail_of]; exact hps
      have HR : Hid (ps.length ≤ 3 → ∃ k, ∃ h : k < ps.length, nameOkL ps[k].data.toList = false) := fun h3 => by
        have hf := hr.out
        cases hx : decide (∀ n ∈ cutL s.data.toList.tail, nameOkL n = true) with
        | true =>
          rw [HP.out.2 ⟨by omega, h47, by rw [← hps]; simpa using h3, of_decide_eq_true hx⟩] at hf
          cases hf
        | false =>
          have hx' := of_decide_eq_false hx
          rw [← hps] at hx'
          simp only [List.mem_map, forall_exists_index, and_imp, forall_apply_eq_imp_iff₂, Classical.not_forall] at hx'
          obtain ⟨x, hx1, hx2⟩ := hx'
          obtain ⟨k, hk, rfl⟩ := List.getElem_of_mem hx1
          exact ⟨k, hk, by simpa using hx2⟩
      have HS : Hid (ps.all (fun x => decide (x.size ≤ 12)) = true) := by
        rw [Hid, List.all_eq_true]
        intro x hx
        have : x.data.toList ∈ cutL s.data.toList.tail := by rw [← hps]; exact List.mem_map_of_mem hx
        have := cut_len this
        have h5 := size_data s
        simp at this h5 ⊢
        omega
      have hz : (s[0].toNat : Int) = 47 := by rw [h47]; rfl
      clear hr HP h47 hps
      by_cases h3 : 3 < ps.length
      · clear HR HS
        go_enter Tryd.func66, Tryd.ntmps66
        go_wp2_with (go_at_call 86; refine (split_c _ ps Hps _ (by simp; omega)).mono ?_; rintro e w' ⟨rfl, rfl⟩)
        go_ret2
        exact ⟨rfl, bellow_alloc _ _⟩
      · go_enter Tryd.func66, Tryd.ntmps66
        go_wp2_with (go_at_call 86; refine (split_c _ ps Hps _ (by simp; omega)).mono ?_; rintro e W ⟨rfl, hW⟩; have HW := Lib.hid hW; clear hW)
        go_loop [6, 27] (fun nm i => ∃ k : Nat, k ≤ ps.length ∧ i = .int .i64 k ∧ (∀ j (h : j < ps.length), j < k → nameOkL ps[j].data.toList = true)) (fun nm i => ps.length - (intOf i).toNat)
        case atStart => exact ⟨0, Nat.zero_le _, rfl, fun j _ h => absurd h (by omega)⟩
        case round =>
          obtain ⟨k, hk, rfl, hall⟩ := hrel
          have HA := Lib.hid hall; clear hall
          by_cases hlt : k < ps.length
          · have hc : W.cell? ⟨w.heap.size, k, none⟩ = some (.string ps[k]) := by
              rw [← HW.out, strs_cell w ps _ k hlt]; simp [hlt]
            have hsz : ps[k].size ≤ maxLen := by
              have := List.all_eq_true.1 HS.out ps[k] (List.getElem_mem hlt)
              simp at this; unfold maxLen; omega
            cases hn : nameOkL ps[k].data.toList with
            | true =>
              have HN := Lib.hid hn; clear hn
              go_wp2_with (go_at_call 69; refine (nameOk_c _ true HN _ hsz).mono ?_; rintro e w' ⟨rfl, rfl⟩)
              go_round
              case rel => exact ⟨k + 1, by omega, by go_num, fun j hj h => by
                by_cases e : j = k
                · subst e; exact HN.out
                · exact HA.out j hj (by omega)⟩
              case measure => simp [intOf]; omega
            | false =>
              have HN := Lib.hid hn; clear hn
              go_wp2_with (go_at_call 69; refine (nameOk_c _ false HN _ hsz).mono ?_; rintro e w' ⟨rfl, rfl⟩)
              go_ret2
              exact ⟨rfl, HW.out ▸ bellow_alloc _ _⟩
          · obtain ⟨j, hj, hjf⟩ := HR.out (by omega)
            rw [HA.out j hj (by omega)] at hjf
            cases hjf
  · have hz : ((s[0].toNat : Int) != 47) = true := by
      rw [bne_iff_ne]; intro h; exact h47 (UInt8.toNat_inj.1 (by simpa using Int.ofNat.inj h))
    clear hr HP h47
    go_enter Tryd.func66, Tryd.ntmps66
    go_wp2
    go_ret2
    exact ⟨rfl, Below.refl _ _⟩

set_option maxHeartbeats 1000000 in
theorem pathNames_yes (s : ByteArray) (ps : List ByteArray) (hr : Hid (pathOkL s.data.toList = true)) (hps : Hid (ps.map (·.data.toList) = cutL s.data.toList.tail)) (w : World) :
    Calls Tryd.prog 66 #[.string s] w fun e w' => e = .returned (.tuple #[.slice (some ⟨w.heap.size, 0, none⟩) ps.length ps.length, .bool true]) ∧ w.alloc (.cells (ps.map Value.string).toArray 9) = w' := by
  have hP := (pathOk_parts s.data.toList).1 hr.out
  have hsz := path_len hr.out
  rw [size_data] at hP hsz
  obtain ⟨h12, hhead, h3, hall⟩ := hP
  have h1 : 0 < s.size := by omega
  rw [head_of s h1] at hhead
  have h47 : s[0] = 47 := Option.some.inj hhead
  have hz : (s[0].toNat : Int) = 47 := by rw [h47]; rfl
  have hne : s.toList.isEmpty = false := by rw [Lib.toList_data]; have := size_data s; cases h : s.data.toList with
    | nil => rw [h] at this; simp at this; omega
    | cons _ _ => rfl
  have Hps : Hid (ps.map (·.data.toList) = cutL (s.extract 1 s.size).data.toList) := by rw [tail_of]; exact hps.out
  have HN : Hid (∀ k, (h : k < ps.length) → nameOkL ps[k].data.toList = true) := fun k h => hall _ (by rw [← hps.out]; exact List.mem_map_of_mem (List.getElem_mem h))
  have hl : ps.length ≤ 3 := by rw [← hps.out] at h3; simpa using h3
  clear hall h3 hhead h47 hr hps
  go_enter Tryd.func66, Tryd.ntmps66
  go_wp2_with (go_at_call 86; refine (split_c _ ps Hps _ (by simp; omega)).mono ?_; rintro e W ⟨rfl, hW⟩; have HW := Lib.hid hW; clear hW)
  go_loop [6, 27] (fun nm i => ∃ k : Nat, k ≤ ps.length ∧ i = .int .i64 k) (fun nm i => ps.length - (intOf i).toNat)
  case atStart => exact ⟨0, Nat.zero_le _, rfl⟩
  case round =>
    obtain ⟨k, hk, rfl⟩ := hrel
    by_cases hlt : k < ps.length
    · have hc : W.cell? ⟨w.heap.size, k, none⟩ = some (.string ps[k]) := by
        rw [← HW.out, strs_cell w ps _ k hlt]; simp [hlt]
      have Hn := Lib.hid (HN.out k hlt)
      have hsz : ps[k].size ≤ maxLen := by
        have := ((nameOkL_iff _).1 Hn.out).2.1
        rw [size_data] at this
        unfold maxLen; omega
      go_wp2_with (go_at_call 69; refine (nameOk_c _ true Hn _ hsz).mono ?_; rintro e w' ⟨rfl, rfl⟩)
      go_round
      case rel => exact ⟨k + 1, by omega, by go_num⟩
      case measure => simp [intOf]; omega
    · go_wp2
      go_ret2
      exact ⟨rfl, HW.out⟩
/-- Either way, with what a caller wants of it. -/
theorem pathOk_c (s : ByteArray) (r : Bool) (hr : Hid (pathOkL s.data.toList = r)) (w : World) (hs : s.size ≤ maxLen) :
    Calls Tryd.prog 38 #[.string s] w fun e w' => e = .returned (.bool r) ∧ Below w.heap.size w w' := by
  cases r with
  | false =>
    go_enter Tryd.func38, Tryd.ntmps38
    go_wp2_with (go_at_call 66; refine (pathNames_no s hr _ hs).mono ?_; rintro e w' ⟨rfl, hb⟩)
    go_ret
    exact ⟨rfl, hb⟩
  | true =>
    obtain ⟨ps, hps⟩ := strs_of (cutL s.data.toList.tail)
    have Hps := Lib.hid hps; clear hps
    go_enter Tryd.func38, Tryd.ntmps38
    go_wp2_with (go_at_call 66; refine (pathNames_yes s ps hr Hps _).mono ?_; rintro e w' ⟨rfl, hb⟩; have HB := Lib.hid hb; clear hb)
    go_ret
    exact ⟨rfl, HB.out ▸ bellow_alloc _ _⟩
theorem pathLevels_c (s : ByteArray) (r : Nat) (hr : Hid (levelsL s.data.toList = r)) (w : World) (hs : s.size ≤ maxLen) :
    Calls Tryd.prog 70 #[.string s] w fun e w' => e = .returned (.int .i64 r) ∧ Below w.heap.size w w' := by
  cases hp : pathOkL s.data.toList with
  | false =>
    obtain rfl : r = 0 := by rw [← hr.out]; simp [levelsL, hp]
    have Hp := Lib.hid hp; clear hp
    go_enter Tryd.func70, Tryd.ntmps70
    go_wp2_with (go_at_call 66; refine (pathNames_no s Hp _ hs).mono ?_; rintro e w' ⟨rfl, hb⟩)
    go_ret
    exact ⟨rfl, hb⟩
  | true =>
    obtain ⟨ps, hps⟩ := strs_of (cutL s.data.toList.tail)
    obtain rfl : r = ps.length := by rw [← hr.out]; simp [levelsL, hp, ← hps]
    have Hp := Lib.hid hp; clear hp
    have Hps := Lib.hid hps; clear hps
    go_enter Tryd.func70, Tryd.ntmps70
    go_wp2_with (go_at_call 66; refine (pathNames_yes s ps Hp Hps _).mono ?_; rintro e w' ⟨rfl, hb⟩; have HB := Lib.hid hb; clear hb)
    go_ret
    exact ⟨rfl, HB.out ▸ bellow_alloc _ _⟩
end Go.Proofs.YtobbodbkdcbflaaDoor
namespace Go.Proofs.YtobbodbkdcbflaaDoor
open Go.RowKit
theorem inter_flat (ns : List Bs) (h : ns ≠ []) : 47 :: Lib.join ns [47] = flat ns := by
  induction ns with
  | nil => exact absurd rfl h
  | cons n r ih =>
    cases r with
    | nil => simp [Lib.join, flat]
    | cons m r =>
      have h2 := ih (by simp)
      have : Lib.join (n :: m :: r) [47] = n ++ 47 :: Lib.join (m :: r) [47] := by simp [Lib.join, List.intercalate]
      rw [this, h2]; rfl
theorem inter_encP (ns : List Bs) : 47 :: Lib.join ns [47] = encP ns := by
  by_cases h : ns = []
  · subst h; rfl
  · rw [encP, if_neg h, inter_flat ns h]
set_option maxHeartbeats 1000000 in
theorem pathUp_c (s : ByteArray) (r : ByteArray) (hr : Hid (upL s.data.toList = r.data.toList)) (w : World) (hs : s.size ≤ maxLen) :
    Calls Tryd.prog 31 #[.string s] w fun e w' => e = .returned (.string r) ∧ Below w.heap.size w w' := by
  cases hp : pathOkL s.data.toList with
  | false =>
    obtain rfl : r = ⟨#[]⟩ := bytes_eq (by rw [← hr.out]; simp [upL, hp])
    have Hp := Lib.hid hp; clear hp
    go_enter Tryd.func31, Tryd.ntmps31
    go_wp2_with (go_at_call 66; refine (pathNames_no s Hp _ hs).mono ?_; rintro e w' ⟨rfl, hb⟩)
    go_ret
    exact ⟨rfl, hb⟩
  | true =>
    obtain ⟨ps, hps⟩ := strs_of (cutL s.data.toList.tail)
    have hn := (pathOk_names hp)
    have h1 : 0 < ps.length := by
      rcases Nat.eq_zero_or_pos ps.length with h | h
      · have : ps = [] := List.eq_nil_of_length_eq_zero h
        subst this
        exact absurd hps.symm hn.2.1
      · exact h
    have h3 : ps.length ≤ 3 := by have := hn.1.1; rw [← hps] at this; simpa using this
    have hR : Hid (r.data.toList = 47 :: Lib.join (ps.dropLast.map (·.data.toList)) [47]) := by
      rw [Hid, inter_encP, List.map_dropLast, hps, ← hr.out, upL, if_pos hp]
    have hlen12 : (Lib.join (ps.dropLast.map (·.data.toList)) [47]).length ≤ 12 := by
      have h4 := inter_encP (ps.dropLast.map (·.data.toList))
      have h5 : (encP (ps.dropLast.map (·.data.toList))).length ≤ 12 := by
        rw [List.map_dropLast, hps]
        unfold encP
        split
        · simp
        · have h6 := (flat_len hn.1.dropLast.2).1
          have h7 := hn.1.dropLast.1
          omega
      rw [← h4] at h5
      simp only [List.length_cons] at h5
      omega
    have hlen : (Lib.join (ps.dropLast.map (·.data.toList)) [47]).length ≤ 140737488355328 := by omega
    obtain ⟨j, hj⟩ : ∃ j : ByteArray, j = ⟨(Lib.join (ps.dropLast.map (·.data.toList)) [47]).toArray⟩ := ⟨_, rfl⟩
    have hjs : j.size ≤ 12 := by rw [hj, ← size_data]; exact hlen12
    have hR' : Hid (r.data.toList = 47 :: j.data.toList) := by rw [hR.out, hj]; rfl
    clear hlen12 hR
    have Hp := Lib.hid hp; clear hp
    have Hps := Lib.hid hps; clear hps hn hr
    have hdl : ps.dropLast.length = ps.length - 1 := by simp
    obtain ⟨m, hm⟩ : ∃ m, ps.length = m + 1 := ⟨ps.length - 1, by omega⟩
    have hdm : ps.dropLast.length = m := by omega
    clear hdl
    have hJ := fun (W : World) hc hbk => Tryd.strings_Join w.heap.size 0 ps.length ps.dropLast ⟨#[47]⟩ W hc hbk (by omega) (by omega) hlen
    have e47 : (ByteArray.mk #[47]).data.toList = [47] := rfl
    rw [e47, ← hj] at hJ
    clear hj
    rw [hdm, hm] at hJ
    have HJ := Lib.hid hJ; clear hJ
    have HM := Lib.hid hm; clear hm hlen
    have HD := Lib.hid hdm; clear hdm
    have hy := pathNames_yes s ps Hp Hps w
    rw [HM.out] at hy
    have HY := Lib.hid hy; clear hy
    have hm2 : m + 1 ≤ 3 := by rw [← HM.out]; exact h3
    clear h1 h3
    go_enter Tryd.func31, Tryd.ntmps31
    go_wp2_with (go_at_call 66; refine HY.out.mono ?_; rintro e W ⟨rfl, hW⟩; have HB := Lib.hid hW; clear hW)
    refine (HJ.out W ?_ ?_).mono ?_
    · intro j x hj
      have hl : j < ps.dropLast.length := (List.getElem?_eq_some_iff.1 hj).1
      have hl' : j < ps.length := by simp at hl; omega
      rw [Nat.zero_add, ← HB.out, strs_cell w ps _ j hl']
      have : ps[j]? = some x := by rw [← hj, List.getElem?_dropLast, if_pos (by simp at hl; omega)]
      rw [this]; rfl
    · rw [← HB.out]; simp
    · rintro e w2 ⟨rfl, hb⟩
      have HJB : Hid (Below w.heap.size w w2) := by
        have h1 := bellow_alloc w (.cells (ps.map Value.string).toArray 9)
        rw [HB.out] at h1
        exact h1.trans (hb.mono (by rw [← HB.out]; simp))
      clear hb
      go_wp2
      go_ret
      exact ⟨ret_str (by rw [hR'.out]; simp), HJB.out⟩
set_option maxHeartbeats 1000000 in
theorem pathName_c (s : ByteArray) (r : ByteArray) (hr : Hid (nameL s.data.toList = r.data.toList)) (w : World) (hs : s.size ≤ maxLen) :
    Calls Tryd.prog 34 #[.string s] w fun e w' => e = .returned (.string r) ∧ Below w.heap.size w w' := by
  cases hp : pathOkL s.data.toList with
  | false =>
    obtain rfl : r = ⟨#[]⟩ := bytes_eq (by rw [← hr.out]; simp [nameL, hp])
    have Hp := Lib.hid hp; clear hp
    go_enter Tryd.func34, Tryd.ntmps34
    go_wp2_with (go_at_call 66; refine (pathNames_no s Hp _ hs).mono ?_; rintro e w' ⟨rfl, hb⟩)
    go_ret
    exact ⟨rfl, hb⟩
  | true =>
    obtain ⟨ps, hps⟩ := strs_of (cutL s.data.toList.tail)
    have hn := (pathOk_names hp)
    have h1 : 0 < ps.length := by
      rcases Nat.eq_zero_or_pos ps.length with h | h
      · have : ps = [] := List.eq_nil_of_length_eq_zero h
        subst this
        exact absurd hps.symm hn.2.1
      · exact h
    have h3 : ps.length ≤ 3 := by have := hn.1.1; rw [← hps] at this; simpa using this
    obtain ⟨m, hm⟩ : ∃ m, ps.length = m + 1 := ⟨ps.length - 1, by omega⟩
    have hR : ps[m]? = some r := by
      have h2 : ps[m]? = some ps[m] := List.getElem?_eq_getElem (by omega)
      rw [h2]
      refine congrArg some (bytes_eq ?_)
      rw [← hr.out, nameL, if_pos hp, ← hps, List.getLast?_eq_getElem?, List.length_map]
      simp [hm]
    have hy := pathNames_yes s ps (Lib.hid hp) (Lib.hid hps) w
    rw [hm] at hy
    have HY := Lib.hid hy; clear hy
    have HC : Hid (∀ W, w.alloc (.cells (ps.map Value.string).toArray 9) = W → W.cell? ⟨w.heap.size, m, none⟩ = some (.string r)) := fun W hW => by
      rw [← hW, strs_cell w ps _ m (by omega), hR]; rfl
    have hm2 : m + 1 ≤ 3 := by omega
    clear hp hps hn hr hR h1 h3 hm
    go_enter Tryd.func34, Tryd.ntmps34
    go_wp2_with (go_at_call 66; refine HY.out.mono ?_; rintro e W ⟨rfl, hW⟩; have hc := HC.out W hW; have HB := Lib.hid hW; clear hW)
    go_ret
    exact ⟨rfl, HB.out ▸ bellow_alloc _ _⟩
end Go.Proofs.YtobbodbkdcbflaaDoor
namespace Go.Proofs.YtobbodbkdcbflaaDoor
open Go.RowKit
theorem beq_no {s : ByteArray} {t : Bs} (h : s.data.toList ≠ t) : (s.toList == t) = false := by rw [Lib.toList_data]; simpa using h
theorem beq_yes {s : ByteArray} {t : Bs} (h : s.data.toList = t) : (s.toList == t) = true := by rw [Lib.toList_data]; simpa using h
theorem beq_of (s : ByteArray) (t : Bs) : (s.toList == t) = (s.data.toList == t) := by rw [Lib.toList_data]
theorem ret_strb {a b : ByteArray} {x : Bool} (h : a.data.toList = b.data.toList) : Ending.returned (.tuple #[.string a, .bool x]) = .returned (.tuple #[.string b, .bool x]) := by rw [bytes_eq h]
theorem app_data (a b : ByteArray) : (a ++ b).data.toList = a.data.toList ++ b.data.toList := by simp
set_option maxHeartbeats 1000000 in
theorem pathJoin_c (d n r : ByteArray) (ok : Bool) (hr : Hid (joinL d.data.toList n.data.toList = r.data.toList)) (hok : Hid (joinOkL d.data.toList n.data.toList = ok)) (w : World) (hd : d.size ≤ 2000000) (hn : n.size ≤ 2000000) :
    Calls Tryd.prog 39 #[.string d, .string n] w fun e w' => e = .returned (.tuple #[.string r, .bool ok]) ∧ Below w.heap.size w w' := by
  have hnm : n.size ≤ maxLen := by unfold maxLen; omega
  have hdm : d.size ≤ maxLen := by unfold maxLen; omega
  have hf : Hid (joinOkL d.data.toList n.data.toList = false → ok = false ∧ r = ⟨#[]⟩) := fun h =>
    ⟨by rw [← hok.out, h], bytes_eq (by rw [← hr.out, joinL, h]; rfl)⟩
  cases hb : nameOkL n.data.toList with
  | false =>
    obtain ⟨rfl, rfl⟩ := hf.out (by simp [joinOkL, hb])
    have HB := Lib.hid hb; clear hb hf hr hok
    go_enter Tryd.func39, Tryd.ntmps39
    go_wp2_with (go_at_call 69; refine (nameOk_c _ _ HB _ hnm).mono ?_; rintro e w' ⟨rfl, rfl⟩)
    go_ret2
    exact ⟨rfl, Below.refl _ _⟩
  | true =>
    by_cases hroot : d.data.toList = [47]
    · have ht : joinOkL d.data.toList n.data.toList = true := by simp [joinOkL, hb, hroot]
      obtain rfl : ok = true := by rw [← hok.out, ht]
      have hR : Hid (r.data.toList = 47 :: n.data.toList) := by rw [Hid, ← hr.out, joinL, ht, hroot]; rfl
      have hq := beq_yes hroot
      have HB := Lib.hid hb; clear hb hf hr hok ht hroot
      go_enter Tryd.func39, Tryd.ntmps39
      go_wp2_with (go_at_call 69; refine (nameOk_c _ _ HB _ hnm).mono ?_; rintro e w' ⟨rfl, rfl⟩)
      go_ret2
      exact ⟨ret_strb (by rw [hR.out]; simp), Below.refl _ _⟩
    · have hq := beq_no hroot
      cases hp : pathOkL d.data.toList with
      | false =>
        obtain ⟨rfl, rfl⟩ := hf.out (by simp [joinOkL, hp, hroot])
        have HB := Lib.hid hb
        have HP := Lib.hid hp; clear hb hp hf hr hok hroot
        go_enter Tryd.func39, Tryd.ntmps39
        go_wp2_with (first | (go_at_call 69; refine (nameOk_c _ _ HB _ hnm).mono ?_; rintro e w' ⟨rfl, rfl⟩) | (go_at_call 38; refine (pathOk_c _ _ HP _ hdm).mono ?_; rintro e w' ⟨rfl, hb⟩))
        go_ret2
        exact ⟨rfl, hb⟩
      | true =>
        obtain ⟨l, hl⟩ : ∃ l, levelsL d.data.toList = l := ⟨_, rfl⟩
        by_cases h3 : l = 3
        · subst h3
          obtain ⟨rfl, rfl⟩ := hf.out (by simp [joinOkL, hl, hroot])
          have HB := Lib.hid hb
          have HL := Lib.hid hl
          have HP := Lib.hid hp; clear hb hp hf hr hok hroot hl
          go_enter Tryd.func39, Tryd.ntmps39
          go_wp2_with (first | (go_at_call 69; refine (nameOk_c _ _ HB _ hnm).mono ?_; rintro e w' ⟨rfl, rfl⟩) | (go_at_call 38; refine (pathOk_c _ _ HP _ hdm).mono ?_; rintro e w1 ⟨rfl, hb1⟩) | (go_at_call 70; refine (pathLevels_c _ _ HL _ hdm).mono ?_; rintro e w2 ⟨rfl, hb2⟩))
          go_ret2
          exact ⟨rfl, hb1.trans (hb2.mono hb1.size)⟩
        · have hl3 : l ≤ 3 := by
            have := (pathOk_names hp).1.1
            rw [← hl, levelsL, if_pos hp]; exact this
          have ht : joinOkL d.data.toList n.data.toList = true := by simp [joinOkL, hb, hp, hl]; omega
          obtain rfl : ok = true := by rw [← hok.out, ht]
          have hR : Hid (r.data.toList = d.data.toList ++ 47 :: n.data.toList) := by rw [Hid, ← hr.out, joinL, ht, if_pos rfl, if_neg hroot]
          have hl' : ((l : Int) == 3) = false := by simp; omega
          have HB := Lib.hid hb
          have HL := Lib.hid hl
          have HP := Lib.hid hp; clear hb hp hf hr hok hroot hl ht h3 hl3
          go_enter Tryd.func39, Tryd.ntmps39
          go_wp2_with (first | (go_at_call 69; refine (nameOk_c _ _ HB _ hnm).mono ?_; rintro e w' ⟨rfl, rfl⟩) | (go_at_call 38; refine (pathOk_c _ _ HP _ hdm).mono ?_; rintro e w1 ⟨rfl, hb1⟩) | (go_at_call 70; refine (pathLevels_c _ _ HL _ hdm).mono ?_; rintro e w2 ⟨rfl, hb2⟩))
          go_ret2
          exact ⟨ret_strb (by rw [hR.out]; simp), hb1.trans (hb2.mono hb1.size)⟩
set_option maxHeartbeats 1000000 in
theorem pathUnder_c (s d : ByteArray) (r : Bool) (hr : Hid (underL s.data.toList d.data.toList = r)) (w : World) (hs : s.size ≤ 2000000) (hd : d.size ≤ 2000000) :
    Calls Tryd.prog 18 #[.string s, .string d] w fun e w' => e = .returned (.bool r) ∧ Below w.heap.size w w' := by
  have hsm : s.size ≤ maxLen := by unfold maxLen; omega
  have hdm : d.size ≤ maxLen := by unfold maxLen; omega
  cases hp : pathOkL s.data.toList with
  | false =>
    obtain rfl : r = false := by rw [← hr.out]; simp [underL, hp]
    have HP := Lib.hid hp; clear hp hr
    go_enter Tryd.func18, Tryd.ntmps18
    go_wp2_with (go_at_call 38; refine (pathOk_c _ _ HP _ hsm).mono ?_; rintro e w' ⟨rfl, hb⟩)
    go_ret
    exact ⟨rfl, hb⟩
  | true =>
    by_cases hroot : d.data.toList = [47]
    · obtain rfl : r = true := by rw [← hr.out]; simp [underL, hp, hroot]
      have hq := beq_yes hroot
      have HP := Lib.hid hp; clear hp hr hroot
      go_enter Tryd.func18, Tryd.ntmps18
      go_wp2_with (go_at_call 38; refine (pathOk_c _ _ HP _ hsm).mono ?_; rintro e w' ⟨rfl, hb⟩)
      go_ret
      exact ⟨rfl, hb⟩
    · have hq := beq_no hroot
      cases hpd : pathOkL d.data.toList with
      | false =>
        obtain rfl : r = false := by rw [← hr.out]; simp [underL, hpd, hroot]
        have HP := Lib.hid hp
        have HD := Lib.hid hpd; clear hp hpd hr hroot
        go_enter Tryd.func18, Tryd.ntmps18
        go_wp2_with fail
        refine (pathOk_c _ _ HP _ hsm).mono ?_; rintro e w1 ⟨rfl, hb1⟩
        go_wp2_with fail
        refine (pathOk_c _ _ HD _ hdm).mono ?_; rintro e w2 ⟨rfl, hb2⟩
        go_wp2
        go_ret
        exact ⟨rfl, hb1.trans (hb2.mono hb1.size)⟩
      | true =>
        have hR : Hid (Lib.hasPrefix s.data.toList (d ++ ⟨#[47]⟩).data.toList = r) := by
          rw [Hid, ← hr.out]; simp [underL, hp, hpd, hroot, Lib.hasPrefix]
        obtain ⟨dd, hdd⟩ : ∃ dd : ByteArray, d ++ ⟨#[47]⟩ = dd := ⟨_, rfl⟩
        rw [hdd] at hR
        have HC := Tryd.strings_HasPrefix s dd
        rw [hR.out] at HC
        have HC' := Lib.hid HC; clear HC
        have HDD := Lib.hid hdd; clear hdd
        have HP := Lib.hid hp
        have HD := Lib.hid hpd; clear hp hpd hr hroot
        go_enter Tryd.func18, Tryd.ntmps18
        go_wp2_with fail
        refine (pathOk_c _ _ HP _ hsm).mono ?_; rintro e w1 ⟨rfl, hb1⟩
        go_wp2_with fail
        refine (pathOk_c _ _ HD _ hdm).mono ?_; rintro e w2 ⟨rfl, hb2⟩
        go_wp2_with fail
        rw [HDD.out]
        refine (HC'.out _).mono ?_; rintro e w3 ⟨rfl, rfl⟩
        go_wp2
        go_ret
        exact ⟨rfl, hb1.trans (hb2.mono hb1.size)⟩
end Go.Proofs.YtobbodbkdcbflaaDoor
namespace Go.Proofs.YtobbodbkdcbflaaDoor
open Go.RowKit
theorem beqs_no {s t : ByteArray} (h : s.data.toList ≠ t.data.toList) : (s.toList == t.toList) = false := by rw [Lib.toList_data, Lib.toList_data]; simpa using h
theorem beqs_yes {s t : ByteArray} (h : s.data.toList = t.data.toList) : (s.toList == t.toList) = true := by rw [Lib.toList_data, Lib.toList_data]; simpa using h
theorem bnes_no {s t : ByteArray} (h : s.data.toList ≠ t.data.toList) : (s.toList != t.toList) = true := by rw [Lib.toList_data, Lib.toList_data]; simpa using h
theorem under_len {s f : Bs} (h : underL s f = true) (hf : pathOkL f = true) : f.length < s.length := by
  rw [under_eq] at h
  simp only [Bool.and_eq_true, l1UnderL, Bool.or_eq_true, beq_iff_eq] at h
  rcases h.2 with h2 | h2
  · exact absurd h2 (path_ne_root hf)
  · have := (List.isPrefixOf_iff_prefix.1 h2).length_le
    simp at this; omega
end Go.Proofs.YtobbodbkdcbflaaDoor
namespace Go.Proofs.YtobbodbkdcbflaaDoor
open Go.RowKit
def l1NamesL (l : Bs) : List Bs := if 2 ≤ l.length ∧ l.head? = some 47 then cutL l.tail else []
theorem cut_sum (l : Bs) (h : ∀ n ∈ cutL l, nameOkL n = true) : l.length + 1 ≤ 4 * (cutL l).length := by
  have h1 := flat_cut l
  have h2 := (flat_len h).1
  rw [h1] at h2
  simpa using h2
theorem pathOk_spec (l : Bs) : pathOkL l = true ↔ l.length ≤ 12 ∧ (∀ n ∈ l1NamesL l, nameOkL n = true) ∧ 1 ≤ (l1NamesL l).length ∧ (l1NamesL l).length ≤ 3 := by
  unfold l1NamesL
  constructor
  · intro h
    have h1 := (pathOk_parts l).1 h
    have h2 := path_len h
    rw [if_pos ⟨h2.1, h1.2.1⟩]
    have h3 := cutL_ne l.tail
    refine ⟨h1.1, h1.2.2.2, ?_, h1.2.2.1⟩
    cases hc : cutL l.tail with
    | nil => exact absurd hc h3
    | cons _ _ => simp
  · rintro ⟨h1, h2, h3, h4⟩
    split at h2
    · next hc => rw [if_pos hc] at h3 h4; exact (pathOk_parts l).2 ⟨h1, hc.2, h4, h2⟩
    · next hc => rw [if_neg hc] at h3; simp at h3
def NamesPost (s : ByteArray) (w : World) (e : Ending) (w' : World) : Prop :=
  ∃ (v : Value) (ps : List ByteArray), e = .returned v ∧ ps.map (·.data.toList) = l1NamesL s.data.toList ∧ w'.ownsRow w.heap.size 9 1 v ps.length (ps.map Value.string) ∧ Below w.heap.size w w'
set_option maxHeartbeats 1000000 in
theorem l1Names_c (s : ByteArray) (w : World) (hs : s.size ≤ 12) :
    Calls Tryd.prog 78 #[.string s] w (NamesPost s w) := by
  by_cases h2 : s.size < 2
  · have H : Hid (l1NamesL s.data.toList = []) := by rw [Hid, l1NamesL, if_neg (by rw [size_data]; omega)]
    go_enter Tryd.func78, Tryd.ntmps78
    go_wp2
    go_ret
    exact ⟨_, [], rfl, H.out.symm, World.ownsRow_lit w #[] 0 (Nat.le_refl _) (Nat.zero_le _) rfl, bellow_alloc _ _⟩
  · by_cases h47 : s[0] = 47
    · have hz : (s[0].toNat : Int) = 47 := by rw [h47]; rfl
      have H : Hid (l1NamesL s.data.toList = cutL (s.extract 1 s.size).data.toList) := by
        rw [Hid, l1NamesL, if_pos ⟨by rw [size_data]; omega, by rw [head_of s (by omega), h47]⟩, tail_of]
      clear h47
      have hcs : (s.extract 1 s.size).size ≤ 1000 := by simp; omega
      have HC := Lib.hid (l10Cut_c (s.extract 1 s.size) w hcs)
      clear hcs
      go_enter Tryd.func78, Tryd.ntmps78
      go_wp2_with (go_at_call 91; refine HC.out.mono ?_; rintro e w' ⟨v, ps, rfl, hps, hown, hb⟩; have HPS := Lib.hid hps; clear hps)
      go_ret
      exact ⟨_, ps, rfl, HPS.out.trans H.out.symm, hown, hb⟩
    · have hz : ((s[0].toNat : Int) != 47) = true := by
        rw [bne_iff_ne]; intro h; exact h47 (UInt8.toNat_inj.1 (by simpa using Int.ofNat.inj h))
      have H : Hid (l1NamesL s.data.toList = []) := by
        rw [Hid, l1NamesL, if_neg]
        rw [head_of s (by omega)]
        rintro ⟨_, h⟩
        exact h47 (Option.some.inj h)
      clear h47
      go_enter Tryd.func78, Tryd.ntmps78
      go_wp2
      go_ret
      exact ⟨_, [], rfl, H.out.symm, World.ownsRow_lit w #[] 0 (Nat.le_refl _) (Nat.zero_le _) rfl, bellow_alloc _ _⟩
set_option maxHeartbeats 1000000 in
theorem sPathOk_c (s : ByteArray) (r : Bool) (hr : Hid (pathOkL s.data.toList = r)) (w : World) (hs : s.size ≤ maxLen) :
    Calls Tryd.prog 48 #[.string s] w fun e w' => e = .returned (.bool r) ∧ Below w.heap.size w w' := by
  unfold maxLen at hs
  have HI : Hid (pathOkL s.data.toList = true ↔ s.size ≤ 12 ∧ (∀ n ∈ l1NamesL s.data.toList, nameOkL n = true) ∧ 1 ≤ (l1NamesL s.data.toList).length ∧ (l1NamesL s.data.toList).length ≤ 3) := by
    rw [← size_data]; exact pathOk_spec _
  have hf : Hid (pathOkL s.data.toList ≠ true → r = false) := fun h => by rw [← hr.out]; simpa using h
  by_cases h12 : 12 < s.size
  · obtain rfl : r = false := hf.out (fun h => by have := HI.out.1 h; omega)
    go_enter Tryd.func48, Tryd.ntmps48
    go_wp2
    go_ret
    exact ⟨rfl, Below.refl _ _⟩
  have HC := Lib.hid (l1Names_c s w (by omega))
  go_enter Tryd.func48, Tryd.ntmps48
  go_wp2_with fail
  refine HC.out.mono ?_
  rintro e W ⟨v, ps, rfl, hps, hown, hb⟩
  have hpl : ps.length = (l1NamesL s.data.toList).length := by rw [← hps]; simp
  have hcl : ps.length ≤ 13 := by
    rw [hpl]; unfold l1NamesL
    split
    · have : (cutL s.data.toList.tail).length ≤ s.data.toList.tail.length + 1 := by
        generalize s.data.toList.tail = l
        induction l with
        | nil => simp [cutL]
        | cons x r ih =>
          unfold cutL
          split
          · simp; omega
          · split <;> simp_all; omega
      simp at this; omega
    · simp
  have HA : Hid (∀ j (h : j < ps.length), pathOkL s.data.toList = true → nameOkL ps[j].data.toList = true) := fun j h hp =>
    (HI.out.1 hp).2.1 _ (by rw [← hps]; exact List.mem_map_of_mem (List.getElem_mem h))
  have HB : Hid ((∀ j (h : j < ps.length), nameOkL ps[j].data.toList = true) → 1 ≤ ps.length → ps.length ≤ 3 → r = true) := fun h h1 h3 => by
    rw [← hr.out]
    refine HI.out.2 ⟨by omega, ?_, by omega, by omega⟩
    rw [← hps]
    intro n hn
    obtain ⟨x, hx, rfl⟩ := List.mem_map.1 hn
    obtain ⟨k, hk, rfl⟩ := List.getElem_of_mem hx
    exact h k hk
  have HL : Hid (∀ j (h : j < ps.length), ps[j].size ≤ maxLen) := fun j h => by
    have hm : ps[j].data.toList ∈ l1NamesL s.data.toList := by rw [← hps]; exact List.mem_map_of_mem (List.getElem_mem h)
    unfold l1NamesL at hm
    split at hm
    · have h5 := cut_len hm
      have h6 := size_data s
      have h7 := size_data ps[j]
      have h8 : s.data.toList.tail.length ≤ s.data.toList.length := by simp
      unfold maxLen; omega
    · cases hm
  have HP : Hid (pathOkL s.data.toList = true → 1 ≤ ps.length ∧ ps.length ≤ 3) := fun hp => by
    have := HI.out.1 hp; omega
  clear HI hps hpl hr
  have hread : Hid (0 < ps.length → ∃ g c, v = .slice (some ⟨g, 0, none⟩) ps.length c ∧ ∀ j (h : j < ps.length), W.cell? ⟨g, j, none⟩ = some (.string ps[j])) := fun h0 => by
    obtain ⟨g, c, hv, _, _, _, hc, _⟩ := own_form hown h0
    exact ⟨g, c, hv, fun j h => hc j _ (by simp [h])⟩
  obtain ⟨a, c, rfl⟩ := own_shape hown
  clear hown
  go_wp2
  go_loop [4] (fun i => ∃ k : Nat, k ≤ ps.length ∧ i = .int .i64 k ∧ (∀ j (h : j < ps.length), j < k → nameOkL ps[j].data.toList = true)) (fun i => ps.length - (intOf i).toNat)
  case atStart => exact ⟨0, Nat.zero_le _, rfl, fun j _ h => absurd h (by omega)⟩
  case round =>
    obtain ⟨k, hk, rfl, hall⟩ := hrel
    have HA2 := Lib.hid hall; clear hall
    by_cases hlt : k < ps.length
    · obtain ⟨g, c', hv, hcells⟩ := hread.out (by omega)
      injection hv with hv1 _ hv3
      subst hv1
      have hc := hcells k hlt
      have hsz := HL.out k hlt
      clear hcells hv3
      cases hn : nameOkL ps[k].data.toList with
      | true =>
        have HN := Lib.hid hn; clear hn
        go_wp2_with (go_at_call 79; refine (l1Name_c _ true HN _ hsz).mono ?_; rintro e w' ⟨rfl, rfl⟩)
        go_round
        case rel => exact ⟨k + 1, by omega, by go_num, fun j hj h => by
          by_cases e : j = k
          · subst e; exact HN.out
          · exact HA2.out j hj (by omega)⟩
        case measure => simp [intOf]; omega
      | false =>
        obtain rfl : r = false := hf.out (fun hp => by rw [HA.out k hlt hp] at hn; cases hn)
        have HN := Lib.hid hn; clear hn
        go_wp2_with (go_at_call 79; refine (l1Name_c _ false HN _ hsz).mono ?_; rintro e w' ⟨rfl, rfl⟩)
        go_ret
        exact ⟨rfl, hb⟩
    · by_cases h1 : 1 ≤ ps.length
      · by_cases h3 : ps.length ≤ 3
        · obtain rfl : r = true := HB.out (fun j h => HA2.out j h (by omega)) h1 h3
          go_wp2
          go_ret
          exact ⟨ret_bool (by simp; try omega), hb⟩
        · obtain rfl : r = false := hf.out (fun hp => by have := HP.out hp; omega)
          go_wp2
          go_ret
          exact ⟨ret_bool (by simp; try omega), hb⟩
      · obtain rfl : r = false := hf.out (fun hp => by have := HP.out hp; omega)
        go_wp2
        go_ret
        exact ⟨ret_bool (by simp; try omega), hb⟩

/-- Where the last stroke is: a text of which what is behind it is known. -/
theorem slash_facts (s : ByteArray) (a n : Bs) (h : s.data.toList = a ++ 47 :: n) (hn : (47 : UInt8) ∉ n) :
    a.length < s.size ∧ (∀ k (hk : k < s.size), a.length < k → s[k] ≠ 47) ∧ (∀ hk : a.length < s.size, s[a.length] = 47) := by
  have hz : s.size = a.length + n.length + 1 := by rw [← size_data, h]; simp; omega
  have hg : ∀ k (hk : k < s.size), some s[k] = (a ++ 47 :: n)[k]? := fun k hk => by rw [← h, get_data]
  refine ⟨by omega, ?_, ?_⟩
  · intro k hk hlt he
    have := hg k hk
    rw [List.getElem?_append_right (by omega), he] at this
    obtain ⟨m, hm⟩ : ∃ m, k - a.length = m + 1 := ⟨k - a.length - 1, by omega⟩
    rw [hm, List.getElem?_cons_succ] at this
    exact hn (List.mem_of_getElem? this.symm)
  · intro hk
    have := hg _ hk
    rw [List.getElem?_append_right (by omega)] at this
    simpa using this
set_option maxHeartbeats 1000000 in
theorem l1Slash_c (s : ByteArray) (a n : Bs) (h : Hid (s.data.toList = a ++ 47 :: n)) (hn : (47 : UInt8) ∉ n) (w : World) (hs : s.size ≤ 1000) :
    Calls Tryd.prog 85 #[.string s] w fun e w' => e = .returned (.int .i64 a.length) ∧ w = w' := by
  obtain ⟨h1, h2, h3⟩ := slash_facts s a n h.out hn
  obtain ⟨m, hm⟩ : ∃ m, a.length = m := ⟨_, rfl⟩
  rw [hm] at h1 h2 h3 ⊢
  have H2 := Lib.hid h2
  have H3 := Lib.hid h3
  clear h2 h3 hm hn h
  go_enter Tryd.func85, Tryd.ntmps85
  go_wp2
  go_loop [3] (fun i => ∃ k : Nat, k < s.size ∧ m ≤ k ∧ i = .int .i64 k) (fun i => (intOf i).toNat)
  case atStart => exact ⟨s.size - 1, by omega, by omega, by go_num⟩
  case round =>
    obtain ⟨k, hk, hmk, rfl⟩ := hrel
    by_cases hlt : m < k
    · have hz : ((s[k].toNat : Int) != 47) = true := by
        rw [bne_iff_ne]; intro h; exact H2.out k hk hlt (UInt8.toNat_inj.1 (by simpa using Int.ofNat.inj h))
      go_wp2
      go_round
      case rel => exact ⟨k - 1, by omega, by omega, by go_num⟩
      case measure => simp [intOf]; omega
    · obtain rfl : m = k := by omega
      have hz : ((s[m].toNat : Int) != 47) = false := by rw [H3.out hk]; rfl
      by_cases h0 : m = 0
      · go_wp2
        all_goals
          go_ret
          exact ⟨rfl, rfl⟩
      · go_wp2
        all_goals
          go_ret
          exact ⟨rfl, rfl⟩
end Go.Proofs.YtobbodbkdcbflaaDoor
namespace Go.Proofs.YtobbodbkdcbflaaDoor
open Go.RowKit
theorem last_split {l : Bs} (hp : pathOkL l = true) : ∃ (i : List Bs) (n : Bs), NS (i ++ [n]) ∧ l = flat i ++ 47 :: n ∧ upL l = encP i ∧ nameL l = n ∧ (47 : UInt8) ∉ n := by
  obtain ⟨ns, h1, h2, rfl⟩ := (pathOk_iff l).1 hp
  have hs : ns = ns.dropLast ++ [ns.getLast h2] := (List.dropLast_concat_getLast h2).symm
  refine ⟨ns.dropLast, ns.getLast h2, hs ▸ h1, ?_, up_flat h1 h2, ?_, h1.no47 _ (List.getLast_mem h2)⟩
  · conv => lhs; rw [hs]
    simp [flat_append, flat]
  · rw [name_flat h1 h2, List.getLast?_eq_some_getLast h2]; rfl
set_option maxHeartbeats 1000000 in
theorem sPathUp_c (s r : ByteArray) (hr : Hid (upL s.data.toList = r.data.toList)) (w : World) (hs : s.size ≤ maxLen) :
    Calls Tryd.prog 61 #[.string s] w fun e w' => e = .returned (.string r) ∧ Below w.heap.size w w' := by
  cases hp : pathOkL s.data.toList with
  | false =>
    obtain rfl : r = ⟨#[]⟩ := bytes_eq (by rw [← hr.out]; simp [upL, hp])
    have Hp := Lib.hid hp; clear hp
    go_enter Tryd.func61, Tryd.ntmps61
    go_wp2_with (go_at_call 48; refine (sPathOk_c _ _ Hp _ hs).mono ?_; rintro e w' ⟨rfl, hb⟩)
    go_ret
    exact ⟨rfl, hb⟩
  | true =>
    have hlen := path_len hp
    rw [size_data] at hlen
    obtain ⟨i, n, _, hsp, hup, _, hn⟩ := last_split hp
    have HSL := fun W => Lib.hid (l1Slash_c s (flat i) n (Lib.hid hsp) hn W (by omega))
    obtain ⟨h1, _, _⟩ := slash_facts s (flat i) n hsp hn
    have HR0 : Hid ((flat i).length = 0 → r = ⟨#[47]⟩) := fun h0 => by
      refine bytes_eq ?_
      rw [← hr.out, hup]
      have : i = [] := by
        cases i with
        | nil => rfl
        | cons x r => simp [flat] at h0
      subst this; rfl
    have HR1 : Hid ((flat i).length ≠ 0 → r.data.toList = (s.extract 0 (flat i).length).data.toList) := fun h0 => by
      rw [← hr.out, hup, ext_data, hsp, encP, if_neg (by rintro rfl; exact h0 rfl)]
      simp
    have Hp := Lib.hid hp
    obtain ⟨m, hm⟩ : ∃ m, (flat i).length = m := ⟨_, rfl⟩
    rw [hm] at HSL HR0 HR1 h1
    clear hp hsp hup hr hm
    by_cases h0 : m = 0
    · obtain rfl := HR0.out h0
      subst h0
      go_enter Tryd.func61, Tryd.ntmps61
      go_wp2_with fail
      refine (sPathOk_c _ _ Hp _ hs).mono ?_; rintro e w1 ⟨rfl, hb1⟩
      go_wp2_with fail
      refine (HSL _).out.mono ?_; rintro e w2 ⟨rfl, rfl⟩
      go_wp2
      go_ret
      exact ⟨rfl, hb1⟩
    · have hz : ((m : Int) == 0) = false := by rw [beq_eq_false_iff_ne]; omega
      have HR := Lib.hid (HR1.out h0)
      go_enter Tryd.func61, Tryd.ntmps61
      go_wp2_with fail
      refine (sPathOk_c _ _ Hp _ hs).mono ?_; rintro e w1 ⟨rfl, hb1⟩
      go_wp2_with fail
      refine (HSL _).out.mono ?_; rintro e w2 ⟨rfl, rfl⟩
      go_wp2
      go_ret
      exact ⟨ret_str HR.out.symm, hb1⟩
set_option maxHeartbeats 1000000 in
theorem sPathName_c (s r : ByteArray) (hr : Hid (nameL s.data.toList = r.data.toList)) (w : World) (hs : s.size ≤ maxLen) :
    Calls Tryd.prog 90 #[.string s] w fun e w' => e = .returned (.string r) ∧ Below w.heap.size w w' := by
  cases hp : pathOkL s.data.toList with
  | false =>
    obtain rfl : r = ⟨#[]⟩ := bytes_eq (by rw [← hr.out]; simp [nameL, hp])
    have Hp := Lib.hid hp; clear hp
    go_enter Tryd.func90, Tryd.ntmps90
    go_wp2_with (go_at_call 48; refine (sPathOk_c _ _ Hp _ hs).mono ?_; rintro e w' ⟨rfl, hb⟩)
    go_ret
    exact ⟨rfl, hb⟩
  | true =>
    have hlen := path_len hp
    rw [size_data] at hlen
    obtain ⟨i, n, _, hsp, _, hnm, hn⟩ := last_split hp
    have HSL := fun W => Lib.hid (l1Slash_c s (flat i) n (Lib.hid hsp) hn W (by omega))
    obtain ⟨h1, _, _⟩ := slash_facts s (flat i) n hsp hn
    have HR1 : Hid (r.data.toList = (s.extract ((flat i).length + 1) s.size).data.toList) := by
      rw [Hid, ← hr.out, hnm, Lib.extract_to_end, hsp]
      simp
    have Hp := Lib.hid hp
    obtain ⟨m, hm⟩ : ∃ m, (flat i).length = m := ⟨_, rfl⟩
    rw [hm] at HSL HR1 h1
    clear hp hsp hnm hr hm
    go_enter Tryd.func90, Tryd.ntmps90
    go_wp2_with fail
    refine (sPathOk_c _ _ Hp _ hs).mono ?_; rintro e w1 ⟨rfl, hb1⟩
    go_wp2_with fail
    refine (HSL _).out.mono ?_; rintro e w2 ⟨rfl, rfl⟩
    go_wp2
    go_ret
    exact ⟨ret_str HR1.out.symm, hb1⟩
set_option maxHeartbeats 1000000 in
theorem l1Under_c (s d : ByteArray) (r : Bool) (hr : Hid (l1UnderL s.data.toList d.data.toList = r)) (w : World) (_hs : s.size ≤ 2000000) (hd : d.size ≤ 2000000) :
    Calls Tryd.prog 81 #[.string s, .string d] w fun e w' => e = .returned (.bool r) ∧ w = w' := by
  by_cases hroot : d.data.toList = [47]
  · obtain rfl : r = true := by rw [← hr.out]; simp [l1UnderL, hroot]
    have hq := beq_yes hroot
    clear hr hroot
    go_enter Tryd.func81, Tryd.ntmps81
    go_wp2
    go_ret
    exact ⟨rfl, rfl⟩
  · have hq := beq_no hroot
    have HI : Hid (l1UnderL s.data.toList d.data.toList = true ↔ d.data.toList ++ [47] <+: s.data.toList) := by
      have : (d.data.toList == [47]) = false := by simpa using hroot
      simp [Hid, l1UnderL, this]
    have hf : Hid (l1UnderL s.data.toList d.data.toList ≠ true → r = false) := fun h => by rw [← hr.out]; simpa using h
    by_cases hlen : d.size < s.size
    · by_cases he : (s.extract 0 d.size).data.toList = d.data.toList
      · by_cases h47 : s[d.size] = 47
        · obtain rfl : r = true := by
            rw [← hr.out]
            refine HI.out.2 ⟨s.data.toList.drop (d.size + 1), ?_⟩
            rw [ext_data, List.drop_zero] at he
            have h5 : s.data.toList.drop d.size = 47 :: s.data.toList.drop (d.size + 1) := by
              rw [List.drop_eq_getElem_cons (by simpa using hlen), ← h47]; rfl
            rw [← he, List.append_assoc, List.singleton_append, ← h5, List.take_append_drop]
          have hq2 := beqs_yes he
          have hz : ((s[d.size].toNat : Int) == 47) = true := by rw [h47]; rfl
          clear hr hroot hf HI he h47
          go_enter Tryd.func81, Tryd.ntmps81
          go_wp2
          go_ret
          exact ⟨rfl, rfl⟩
        · obtain rfl : r = false := hf.out (fun h => h47 (by
            obtain ⟨x, hx⟩ := HI.out.1 h
            have := get_data s d.size hlen
            rw [← hx, List.append_assoc, List.getElem?_append_right (by simp)] at this
            simpa using this.symm))
          have hq2 := beqs_yes he
          have hz : ((s[d.size].toNat : Int) == 47) = false := by
            rw [beq_eq_false_iff_ne]; intro h; exact h47 (UInt8.toNat_inj.1 (by simpa using Int.ofNat.inj h))
          clear hr hroot hf HI he h47
          go_enter Tryd.func81, Tryd.ntmps81
          go_wp2
          go_ret
          exact ⟨rfl, rfl⟩
      · obtain rfl : r = false := hf.out (fun h => he (by
          obtain ⟨x, hx⟩ := HI.out.1 h
          rw [ext_data, List.drop_zero, ← hx, List.append_assoc, ← size_data d]
          simp))
        have hq2 := beqs_no he
        clear hr hroot hf HI he
        go_enter Tryd.func81, Tryd.ntmps81
        go_wp2
        go_ret
        exact ⟨rfl, rfl⟩
    · obtain rfl : r = false := hf.out (fun h => hlen (by
        have := (HI.out.1 h).length_le
        simp at this; omega))
      clear hr hroot hf HI
      go_enter Tryd.func81, Tryd.ntmps81
      go_wp2
      go_ret
      exact ⟨rfl, rfl⟩
end Go.Proofs.YtobbodbkdcbflaaDoor
namespace Go.Proofs.YtobbodbkdcbflaaDoor
open Go.RowKit
theorem app3_data (d n : ByteArray) : (d ++ ⟨#[47]⟩ ++ n).data.toList = d.data.toList ++ 47 :: n.data.toList := by simp
set_option maxHeartbeats 2000000 in
theorem sPathMove_c (s f t r : ByteArray) (ok : Bool) (hr : Hid (moveL s.data.toList f.data.toList t.data.toList = r.data.toList)) (hok : Hid (moveOkL s.data.toList f.data.toList t.data.toList = ok)) (w : World) (hs : s.size ≤ 2000000) (hf : f.size ≤ 2000000) (ht : t.size ≤ 2000000) :
    Calls Tryd.prog 111 #[.string s, .string f, .string t] w fun e w' => e = .returned (.tuple #[.string r, .bool ok]) ∧ Below w.heap.size w w' := by
  have hsm : s.size ≤ maxLen := by unfold maxLen; omega
  have hfm : f.size ≤ maxLen := by unfold maxLen; omega
  have htm : t.size ≤ maxLen := by unfold maxLen; omega
  have hno : Hid (moveOkL s.data.toList f.data.toList t.data.toList = false → ok = false ∧ r = ⟨#[]⟩) := fun h =>
    ⟨by rw [← hok.out, h], bytes_eq (by rw [← hr.out, moveL, h]; rfl)⟩
  cases hp : pathOkL s.data.toList with
  | false =>
    obtain ⟨rfl, rfl⟩ := hno.out (by simp [moveOkL, hp])
    have HP := Lib.hid hp; clear hp hr hok hno
    go_enter Tryd.func111, Tryd.ntmps111
    go_wp2_with fail
    refine (sPathOk_c _ _ HP _ hsm).mono ?_; rintro e w1 ⟨rfl, hb1⟩
    go_wp2
    go_ret2
    exact ⟨rfl, hb1⟩
  | true =>
  cases hpf : pathOkL f.data.toList with
  | false =>
    obtain ⟨rfl, rfl⟩ := hno.out (by simp [moveOkL, hpf])
    have HP := Lib.hid hp
    have HF := Lib.hid hpf; clear hp hpf hr hok hno
    go_enter Tryd.func111, Tryd.ntmps111
    go_wp2_with fail
    refine (sPathOk_c _ _ HP _ hsm).mono ?_; rintro e w1 ⟨rfl, hb1⟩
    go_wp2_with fail
    refine (sPathOk_c _ _ HF _ hfm).mono ?_; rintro e w2 ⟨rfl, hb2⟩
    go_wp2
    go_ret2
    exact ⟨rfl, hb1.trans (hb2.mono hb1.size)⟩
  | true =>
  cases hpt : pathOkL t.data.toList with
  | false =>
    obtain ⟨rfl, rfl⟩ := hno.out (by simp [moveOkL, hpt])
    have HP := Lib.hid hp
    have HF := Lib.hid hpf
    have HT := Lib.hid hpt; clear hp hpf hpt hr hok hno
    go_enter Tryd.func111, Tryd.ntmps111
    go_wp2_with fail
    refine (sPathOk_c _ _ HP _ hsm).mono ?_; rintro e w1 ⟨rfl, hb1⟩
    go_wp2_with fail
    refine (sPathOk_c _ _ HF _ hfm).mono ?_; rintro e w2 ⟨rfl, hb2⟩
    go_wp2_with fail
    refine (sPathOk_c _ _ HT _ htm).mono ?_; rintro e w3 ⟨rfl, hb3⟩
    go_wp2
    go_ret2
    exact ⟨rfl, (hb1.trans (hb2.mono hb1.size)).trans (hb3.mono (Nat.le_trans hb1.size hb2.size))⟩
  | true =>
  have HP := Lib.hid hp
  have HF := Lib.hid hpf
  have HT := Lib.hid hpt
  have hue : underL s.data.toList f.data.toList = l1UnderL s.data.toList f.data.toList := by rw [under_eq]; simp [hp, hpf]
  by_cases he : s.data.toList = f.data.toList
  · obtain rfl : s = f := bytes_eq he
    have hM : moved s.data.toList s.data.toList t.data.toList = t.data.toList := by
      rw [moved, if_pos (.inl rfl)]; simp
    have hy : moveOkL s.data.toList s.data.toList t.data.toList = true := by simp [moveOkL, hM, hp, hpt]
    obtain rfl : ok = true := by rw [← hok.out, hy]
    obtain rfl : r = t := bytes_eq (by rw [← hr.out, moveL, if_pos hy, hM])
    clear hp hpf hpt hr hok hno he hM hy hue
    go_enter Tryd.func111, Tryd.ntmps111
    go_wp2_with fail
    refine (sPathOk_c _ _ HP _ hsm).mono ?_; rintro e w1 ⟨rfl, hb1⟩
    go_wp2_with fail
    refine (sPathOk_c _ _ HF _ hfm).mono ?_; rintro e w2 ⟨rfl, hb2⟩
    go_wp2_with fail
    refine (sPathOk_c _ _ HT _ htm).mono ?_; rintro e w3 ⟨rfl, hb3⟩
    go_wp2_with fail
    refine (sPathOk_c _ _ HT _ htm).mono ?_; rintro e w4 ⟨rfl, hb4⟩
    go_wp2
    go_ret2
    exact ⟨rfl, ((hb1.trans (hb2.mono hb1.size)).trans (hb3.mono (Nat.le_trans hb1.size hb2.size))).trans (hb4.mono (Nat.le_trans hb1.size (Nat.le_trans hb2.size hb3.size)))⟩
  · have hq := beqs_no he
    cases hu : underL s.data.toList f.data.toList with
    | false =>
      have hM : moved s.data.toList f.data.toList t.data.toList = s.data.toList := by rw [moved, if_neg (by simp [he, hu])]
      have hy : moveOkL s.data.toList f.data.toList t.data.toList = true := by simp [moveOkL, hM, hp, hpf, hpt]
      obtain rfl : ok = true := by rw [← hok.out, hy]
      obtain rfl : r = s := bytes_eq (by rw [← hr.out, moveL, if_pos hy, hM])
      have HU := Lib.hid (hue.symm.trans hu); clear hp hpf hpt hr hok hno he hM hy hu hue
      go_enter Tryd.func111, Tryd.ntmps111
      go_wp2_with fail
      refine (sPathOk_c _ _ HP _ hsm).mono ?_; rintro e w1 ⟨rfl, hb1⟩
      go_wp2_with fail
      refine (sPathOk_c _ _ HF _ hfm).mono ?_; rintro e w2 ⟨rfl, hb2⟩
      go_wp2_with fail
      refine (sPathOk_c _ _ HT _ htm).mono ?_; rintro e w3 ⟨rfl, hb3⟩
      go_wp2_with fail
      refine (l1Under_c _ _ _ HU _ hs hf).mono ?_; rintro e w4 ⟨rfl, rfl⟩
      go_wp2
      go_ret2
      exact ⟨rfl, ((hb1.trans (hb2.mono hb1.size)).trans (hb3.mono (Nat.le_trans hb1.size hb2.size)))⟩
    | true =>
      have hlen : f.size < s.size := by have := under_len hu hpf; rwa [size_data, size_data] at this
      have hM : Hid ((t ++ s.extract f.size s.size).data.toList = moved s.data.toList f.data.toList t.data.toList) := by
        rw [Hid, moved, if_pos (.inr hu), app_data, Lib.extract_to_end, size_data]
      obtain ⟨m, hm⟩ : ∃ m, t ++ s.extract f.size s.size = m := ⟨_, rfl⟩
      have hms : m.size ≤ 4000000 := by rw [← hm]; simp; omega
      have hmm : m.size ≤ maxLen := by unfold maxLen; omega
      rw [hm] at hM
      have HM := Lib.hid hm; clear hm
      have HU := Lib.hid (hue.symm.trans hu)
      cases hpm : pathOkL m.data.toList with
      | false =>
        obtain ⟨rfl, rfl⟩ := hno.out (by simp [moveOkL, ← hM.out, hpm])
        have HPM := Lib.hid hpm; clear hp hpf hpt hpm hr hok hno he hM hu hue
        go_enter Tryd.func111, Tryd.ntmps111
        go_wp2_with fail
        refine (sPathOk_c _ _ HP _ hsm).mono ?_; rintro e w1 ⟨rfl, hb1⟩
        go_wp2_with fail
        refine (sPathOk_c _ _ HF _ hfm).mono ?_; rintro e w2 ⟨rfl, hb2⟩
        go_wp2_with fail
        refine (sPathOk_c _ _ HT _ htm).mono ?_; rintro e w3 ⟨rfl, hb3⟩
        go_wp2_with fail
        refine (l1Under_c _ _ _ HU _ hs hf).mono ?_; rintro e w4 ⟨rfl, rfl⟩
        go_wp2_with fail
        rw [HM.out]
        refine (sPathOk_c _ _ HPM _ hmm).mono ?_; rintro e w5 ⟨rfl, hb5⟩
        go_wp2
        go_ret2
        exact ⟨rfl, (((hb1.trans (hb2.mono hb1.size)).trans (hb3.mono (Nat.le_trans hb1.size hb2.size)))).trans (hb5.mono (Nat.le_trans hb1.size (Nat.le_trans hb2.size hb3.size)))⟩
      | true =>
        have hy : moveOkL s.data.toList f.data.toList t.data.toList = true := by simp [moveOkL, ← hM.out, hpm, hp, hpf, hpt]
        obtain rfl : ok = true := by rw [← hok.out, hy]
        obtain rfl : r = m := bytes_eq (by rw [← hr.out, moveL, if_pos hy, hM.out])
        have HPM := Lib.hid hpm; clear hp hpf hpt hpm hr hok hno he hM hy hu hue
        go_enter Tryd.func111, Tryd.ntmps111
        go_wp2_with fail
        refine (sPathOk_c _ _ HP _ hsm).mono ?_; rintro e w1 ⟨rfl, hb1⟩
        go_wp2_with fail
        refine (sPathOk_c _ _ HF _ hfm).mono ?_; rintro e w2 ⟨rfl, hb2⟩
        go_wp2_with fail
        refine (sPathOk_c _ _ HT _ htm).mono ?_; rintro e w3 ⟨rfl, hb3⟩
        go_wp2_with fail
        refine (l1Under_c _ _ _ HU _ hs hf).mono ?_; rintro e w4 ⟨rfl, rfl⟩
        go_wp2_with fail
        rw [HM.out]
        refine (sPathOk_c _ _ HPM _ hmm).mono ?_; rintro e w5 ⟨rfl, hb5⟩
        go_wp2
        go_ret2
        exact ⟨rfl, (((hb1.trans (hb2.mono hb1.size)).trans (hb3.mono (Nat.le_trans hb1.size hb2.size)))).trans (hb5.mono (Nat.le_trans hb1.size (Nat.le_trans hb2.size hb3.size)))⟩
end Go.Proofs.YtobbodbkdcbflaaDoor
namespace Go.Proofs.YtobbodbkdcbflaaDoor
open Go.RowKit
/-- A directory, or a file with data. -/
structure En where
  p : ByteArray
  d : Bool
  x : ByteArray
/-- A mark of a layer. -/
structure Mk where
  p : ByteArray
  k : Int
  x : ByteArray
def En.cells (e : En) : List Value := [.string e.p, .bool e.d, .string e.x]
def Mk.cells (m : Mk) : List Value := [.string m.p, .int .i64 m.k, .string m.x]
abbrev En.val (e : En) : Value := .agg #[.string e.p, .bool e.d, .string e.x]
abbrev Mk.val (m : Mk) : Value := .agg #[.string m.p, .int .i64 m.k, .string m.x]
/-- A slice of structs of three cells that can be read: nil and empty ones let in. -/
def SlF {α : Type} (f : α → List Value) (w : World) (a : Option Addr) (xs : List α) : Prop :=
  0 < xs.length → ∃ b off, a = some ⟨b, off, none⟩ ∧ b < w.heap.size ∧ ∀ k x, xs[k]? = some x → ∀ j u, (f x)[j]? = some u → w.cell? ⟨b, off + k * 3 + j, none⟩ = some u
section
variable {α : Type} {f : α → List Value} {w w' : World} {a : Option Addr} {xs : List α}
theorem SlF.nil_ : SlF f w a ([] : List α) := fun h => absurd h (by simp)
theorem SlF.below (h : SlF f w a xs) (hb : Below w.heap.size w w') : SlF f w' a xs := fun hn => by
  obtain ⟨b, off, e, hlt, hc⟩ := h hn
  exact ⟨b, off, e, Nat.lt_of_lt_of_le hlt hb.size, fun k x hx j u hu => (hb.cell (p := ⟨b, off + k * 3 + j, none⟩) hlt).trans (hc k x hx j u hu)⟩
theorem SlF.addr (h : SlF f w a xs) (hn : 0 < xs.length) : ∃ b off, a = some ⟨b, off, none⟩ ∧ b < w.heap.size := by
  obtain ⟨b, off, e, hlt, _⟩ := h hn
  exact ⟨b, off, e, hlt⟩
end
/-- The three cells of an entry that stands at place k. -/
theorem en_at {w : World} {b off : Nat} {xs : List En} (h : SlF En.cells w (some ⟨b, off, none⟩) xs) (k : Nat) (e : En) (he : xs[k]? = some e) :
    w.cell? ⟨b, off + k * 3, none⟩ = some (.string e.p) ∧ w.cell? ⟨b, off + k * 3 + 1, none⟩ = some (.bool e.d) ∧ w.cell? ⟨b, off + k * 3 + 2, none⟩ = some (.string e.x) := by
  have hk : k < xs.length := (List.getElem?_eq_some_iff.1 he).1
  obtain ⟨b', off', e1, _, hc⟩ := h (by omega)
  simp only [Option.some.injEq, Addr.mk.injEq, and_true] at e1
  obtain ⟨rfl, rfl⟩ := e1
  exact ⟨hc k e he 0 _ rfl, hc k e he 1 _ rfl, hc k e he 2 _ rfl⟩
theorem mk_at {w : World} {b off : Nat} {xs : List Mk} (h : SlF Mk.cells w (some ⟨b, off, none⟩) xs) (k : Nat) (e : Mk) (he : xs[k]? = some e) :
    w.cell? ⟨b, off + k * 3, none⟩ = some (.string e.p) ∧ w.cell? ⟨b, off + k * 3 + 1, none⟩ = some (.int .i64 e.k) ∧ w.cell? ⟨b, off + k * 3 + 2, none⟩ = some (.string e.x) := by
  have hk : k < xs.length := (List.getElem?_eq_some_iff.1 he).1
  obtain ⟨b', off', e1, _, hc⟩ := h (by omega)
  simp only [Option.some.injEq, Addr.mk.injEq, and_true] at e1
  obtain ⟨rfl, rfl⟩ := e1
  exact ⟨hc k e he 0 _ rfl, hc k e he 1 _ rfl, hc k e he 2 _ rfl⟩
def enW (e : En) : Nat := e.p.size + e.x.size
def mkW (e : Mk) : Nat := e.p.size + e.x.size
def sumW {α : Type} (f : α → Nat) : List α → Nat
  | [] => 0
  | x :: r => f x + sumW f r
theorem sumW_append {α : Type} (f : α → Nat) (a b : List α) : sumW f (a ++ b) = sumW f a + sumW f b := by
  induction a with
  | nil => simp [sumW]
  | cons x r ih => simp [sumW, ih]; omega
theorem sumW_take {α : Type} (f : α → Nat) (xs : List α) (k : Nat) (e : α) (h : xs[k]? = some e) : sumW f (xs.take (k + 1)) = sumW f (xs.take k) + f e := by
  have hk : k < xs.length := (List.getElem?_eq_some_iff.1 h).1
  have he : xs[k] = e := (List.getElem?_eq_some_iff.1 h).2
  rw [List.take_succ_eq_append_getElem hk, sumW_append, he]
  simp [sumW]
theorem sumW_le {α : Type} (f : α → Nat) (xs : List α) (k : Nat) : sumW f (xs.take k) ≤ sumW f xs := by
  conv => rhs; rw [← List.take_append_drop k xs, sumW_append]
  omega
end Go.Proofs.YtobbodbkdcbflaaDoor
namespace Go.Proofs.YtobbodbkdcbflaaDoor
open Go.RowKit
theorem set3 {l : List Value} {k : Nat} (h : k * 3 + 3 ≤ l.length) (a b c : Value) : (((l.set (k * 3) a).set (k * 3 + 1) b).set (k * 3 + 2) c).take ((k + 1) * 3) = l.take (k * 3) ++ [a, b, c] := by
  apply List.ext_getElem?
  intro i
  rw [List.getElem?_take, List.getElem?_append, List.length_take, Nat.min_eq_left (by omega)]
  simp only [List.getElem?_set, List.length_set, List.getElem?_take]
  by_cases h1 : i < k * 3
  · rw [if_pos (by omega), if_neg (by omega), if_neg (by omega), if_neg (by omega), if_pos h1, if_pos h1]
  · rw [if_neg h1]
    by_cases h2 : i = k * 3
    · subst h2
      rw [if_pos (by omega), if_neg (by omega), if_neg (by omega), if_pos rfl, if_pos (by omega)]
      simp
    · by_cases h3 : i = k * 3 + 1
      · subst h3
        rw [if_pos (by omega), if_neg (by omega), if_pos rfl, if_pos (by omega)]
        simp
      · by_cases h4 : i = k * 3 + 2
        · subst h4
          rw [if_pos (by omega), if_pos rfl, if_pos (by omega)]
          simp
        · rw [if_neg (by omega), List.getElem?_eq_none (by simp; omega)]
theorem flatMap_len {α : Type} {f : α → List Value} (hf : ∀ x, (f x).length = 3) (xs : List α) : (xs.flatMap f).length = xs.length * 3 := by
  induction xs with
  | nil => rfl
  | cons x r ih => simp [ih, hf]; omega
theorem flatMap_take {α : Type} (f : α → List Value) (xs : List α) (k : Nat) (e : α) (h : xs[k]? = some e) : (xs.take (k + 1)).flatMap f = (xs.take k).flatMap f ++ f e := by
  have hk : k < xs.length := (List.getElem?_eq_some_iff.1 h).1
  have he : xs[k] = e := (List.getElem?_eq_some_iff.1 h).2
  rw [List.take_succ_eq_append_getElem hk, he]
  simp
/-- A row under way: the first k of n structs of three cells are laid. -/
def Fill {α : Type} (f : α → List Value) (t : TypeId) (w : World) (g n : Nat) (xs : List α) (k : Nat) : Prop :=
  ∃ cs : Array Value, w.heap[g]? = some (.cells cs t (0, 0)) ∧ cs.size = n * 3 ∧ cs.toList.take (k * 3) = (xs.take k).flatMap f
theorem Fill.facts {α : Type} {f : α → List Value} {t : TypeId} {w : World} {g n : Nat} {xs : List α} {k : Nat} (h : Fill f t w g n xs k) (hk : k < n) :
    g < w.heap.size ∧ (∃ v, w.cell? ⟨g, k * 3, none⟩ = some v) ∧ (∃ v, w.cell? ⟨g, k * 3 + 1, none⟩ = some v) ∧ (∃ v, w.cell? ⟨g, k * 3 + 2, none⟩ = some v) ∧ (∀ j, w.frozen? ⟨g, j, none⟩ = false) := by
  obtain ⟨cs, h1, h2, _⟩ := h
  have hl : g < w.heap.size := by
    rcases Nat.lt_or_ge g w.heap.size with h | h
    · exact h
    · rw [Array.getElem?_eq_none h] at h1; cases h1
  refine ⟨hl, ⟨cs[k * 3], ?_⟩, ⟨cs[k * 3 + 1], ?_⟩, ⟨cs[k * 3 + 2], ?_⟩, fun j => by simp [World.frozen?, h1]⟩
  · rw [cell_of_row _ _ _ _ _ _ h1]; exact Array.getElem?_eq_getElem (by omega)
  · rw [cell_of_row _ _ _ _ _ _ h1]; exact Array.getElem?_eq_getElem (by omega)
  · rw [cell_of_row _ _ _ _ _ _ h1]; exact Array.getElem?_eq_getElem (by omega)
theorem Fill.keep {α : Type} {f : α → List Value} {t : TypeId} {w w' : World} {g n : Nat} {xs : List α} {k : Nat} (h : Fill f t w g n xs k) (hb : Below w.heap.size w w') : Fill f t w' g n xs k := by
  obtain ⟨cs, h1, h2, h3⟩ := h
  have hl : g < w.heap.size := by
    rcases Nat.lt_or_ge g w.heap.size with h | h
    · exact h
    · rw [Array.getElem?_eq_none h] at h1; cases h1
  exact ⟨cs, (hb.block g hl).trans h1, h2, h3⟩
theorem Fill.store {α : Type} {f : α → List Value} {t : TypeId} {w : World} {g n : Nat} {xs : List α} {k : Nat} (h : Fill f t w g n xs k) (hk : k < n) {e : α} (he : xs[k]? = some e) {a b c : Value} (hf : f e = [a, b, c]) :
    Fill f t (((w.setCell ⟨g, k * 3, none⟩ a).setCell ⟨g, k * 3 + 1, none⟩ b).setCell ⟨g, k * 3 + 2, none⟩ c) g n xs (k + 1) := by
  obtain ⟨cs, h1, h2, h3⟩ := h
  refine ⟨((cs.setIfInBounds (k * 3) a).setIfInBounds (k * 3 + 1) b).setIfInBounds (k * 3 + 2) c, ?_, by simpa using h2, ?_⟩
  · simp [World.setCell, Array.getElem?_modify, h1]
  · rw [flatMap_take f xs k e he, hf, ← h3]
    simp only [Array.toList_setIfInBounds]
    exact set3 (by simp [h2]; omega) a b c
theorem Fill.own {α : Type} {f : α → List Value} {t : TypeId} {w : World} {g n B : Nat} {xs : List α} (h : Fill f t w g n xs n) (hn : xs.length = n) (hf : ∀ x, (f x).length = 3) (hB : B ≤ g) (hm : n ≤ maxLen) :
    w.ownsRow B t 3 (.slice (some ⟨g, 0, none⟩) n n) xs.length (xs.flatMap f) := by
  obtain ⟨cs, h1, h2, h3⟩ := h
  refine ⟨flatMap_len hf xs, .inr ⟨g, n, cs, by rw [hn], hB, h1, by omega, hm, h2, ?_⟩⟩
  rw [hn, h3, ← hn, List.take_length]
/-- A row of the call's own that reads as entries. -/
def OwnEn (w : World) (B : Nat) (v : Value) (xs : List En) : Prop := w.ownsRow B 41 3 v xs.length (xs.flatMap En.cells)
theorem infoEn : (Tryd.prog.info? 41).map (fun i => (i.zero, i.size, i.bytes)) = some (some (.agg #[.string ByteArray.empty, .bool false, .string ByteArray.empty]), 3, 40) := by kernel_rfl
theorem eltEn : Elt Tryd.prog 37 41 3 40 := by
  obtain ⟨i, h1, h2, h3, h4⟩ := info_parts infoEn
  exact ⟨Tryd.underlying37, ⟨i, _, h1, h2, h3, h4, rfl⟩, by decide, by decide⟩
theorem makeEn (n : Nat) (hn : n ≤ 2000000) (W : World) : (Instr.makeSlice 37 (.int .i64 (n : Int)) (.int .i64 (n : Int))).run Tryd.prog W = .ok (.slice (some ⟨W.heap.size, 0, none⟩) n n) (W.alloc (.cells (madeCells #[.string ByteArray.empty, .bool false, .string ByteArray.empty] (n * 3)) 41)) := by
  obtain ⟨i0, hi, hz0, hz1, hz2⟩ := info_parts infoEn
  have hr := run_make (P := Tryd.prog) W 37 41 i0 _ Tryd.underlying37 hi hz0 .i64 .i64 (n : Int) (n : Int) (by omega) (by omega) (by rw [hz2]; omega) (by omega)
  simp only [Int.toNat_natCast, hz1] at hr
  exact hr
/-- A row of the call's own that reads as entries. -/
def OwnMk (w : World) (B : Nat) (v : Value) (xs : List Mk) : Prop := w.ownsRow B 30 3 v xs.length (xs.flatMap Mk.cells)
theorem infoMk : (Tryd.prog.info? 30).map (fun i => (i.zero, i.size, i.bytes)) = some (some (.agg #[.string ByteArray.empty, .int .i64 0, .string ByteArray.empty]), 3, 40) := by kernel_rfl
theorem eltMk : Elt Tryd.prog 23 30 3 40 := by
  obtain ⟨i, h1, h2, h3, h4⟩ := info_parts infoMk
  exact ⟨Tryd.underlying23, ⟨i, _, h1, h2, h3, h4, rfl⟩, by decide, by decide⟩
theorem makeMk (n : Nat) (hn : n ≤ 2000000) (W : World) : (Instr.makeSlice 23 (.int .i64 (n : Int)) (.int .i64 (n : Int))).run Tryd.prog W = .ok (.slice (some ⟨W.heap.size, 0, none⟩) n n) (W.alloc (.cells (madeCells #[.string ByteArray.empty, .int .i64 0, .string ByteArray.empty] (n * 3)) 30)) := by
  obtain ⟨i0, hi, hz0, hz1, hz2⟩ := info_parts infoMk
  have hr := run_make (P := Tryd.prog) W 23 30 i0 _ Tryd.underlying23 hi hz0 .i64 .i64 (n : Int) (n : Int) (by omega) (by omega) (by rw [hz2]; omega) (by omega)
  simp only [Int.toNat_natCast, hz1] at hr
  exact hr
end Go.Proofs.YtobbodbkdcbflaaDoor
namespace Go.Proofs.YtobbodbkdcbflaaDoor
open Go.RowKit
theorem bq_yes {s t : ByteArray} (h : s = t) : (s.toList == t.toList) = true := by subst h; simp
theorem bq_no {s t : ByteArray} (h : s ≠ t) : (s.toList == t.toList) = false := by
  rw [beq_eq_false_iff_ne]
  intro e
  refine h (bytes_eq ?_)
  rw [ByteArray.toList_eq, ByteArray.toList_eq] at e
  exact e
/-- Lists that are not one part at a place, or in their length. -/
theorem differ {α : Type} {xs ys : List α} (h : xs.length = ys.length) (hk : ∀ (k : Nat) (x y : α), xs[k]? = some x → ys[k]? = some y → x = y) : xs = ys := by
  apply List.ext_getElem?
  intro k
  by_cases h1 : k < xs.length
  · have e1 : xs[k]? = some xs[k] := List.getElem?_eq_getElem h1
    have e2 : ys[k]? = some (ys[k]'(by omega)) := List.getElem?_eq_getElem (by omega)
    rw [e1, e2, hk k _ _ e1 e2]
  · rw [List.getElem?_eq_none (by omega), List.getElem?_eq_none (by omega)]
end Go.Proofs.YtobbodbkdcbflaaDoor
namespace Go.Proofs.YtobbodbkdcbflaaDoor
theorem ns_split {ns : List Bs} (hne : ns ≠ []) : ∃ i n, ns = i ++ [n] := ⟨ns.dropLast, ns.getLast hne, (List.dropLast_concat_getLast hne).symm⟩
theorem path_split {l : Bs} (h : pathOkL l = true) : ∃ (i : List Bs) (n : Bs), NS i ∧ i.length < 3 ∧ nameOkL n = true ∧ NS (i ++ [n]) ∧ l = flat (i ++ [n]) ∧ upL l = encP i ∧ nameL l = n := by
  obtain ⟨ns, h1, h2, rfl⟩ := (pathOk_iff l).1 h
  obtain ⟨i, n, rfl⟩ := ns_split h2
  have h3 := h1.1
  simp at h3
  exact ⟨i, n, h1.of_append.1, by omega, h1.2 n (by simp), h1, rfl, by rw [up_flat h1 h2]; simp, by rw [name_flat h1 h2]; simp⟩
theorem levels_encP {i : List Bs} (h : NS i) : levelsL (encP i) = i.length := by
  by_cases he : i = []
  · subst he; decide
  · rw [encP, if_neg he, levels_flat h he]
theorem not_under_self (l : Bs) : underL l l = false := by
  cases h : underL l l with
  | false => rfl
  | true =>
    have hp : pathOkL l = true := by simp [underL] at h; exact h.1
    obtain ⟨ns, h1, h2, rfl⟩ := (pathOk_iff l).1 hp
    obtain ⟨r, hr, e⟩ := (under_flat h1 h2 h1 h2).1 h
    have := congrArg List.length e
    simp at this
    exact absurd this hr
theorem law_path {l : Bs} (h : pathOkL l = true) : joinOkL (upL l) (nameL l) = true ∧ joinL (upL l) (nameL l) = l ∧ underL l (upL l) = true ∧ levelsL l = levelsL (upL l) + 1 := by
  obtain ⟨i, n, h1, h2, h3, h4, rfl, h6, h7⟩ := path_split h
  rw [h6, h7]
  have hj := join_flat h1 h3 h2
  refine ⟨hj.1, hj.2, ?_, ?_⟩
  · exact (under_encP h4 (by simp) h1).2 ⟨[n], by simp, rfl⟩
  · rw [levels_encP h1, levels_flat h4 (by simp)]; simp
theorem no_path {l : Bs} (h : pathOkL l = false) : upL l = [] ∧ nameL l = [] ∧ levelsL l = 0 := by simp [upL, nameL, levelsL, h]
theorem join_path {d n : Bs} (h : joinOkL d n = true) : pathOkL (joinL d n) = true ∧ upL (joinL d n) = d ∧ nameL (joinL d n) = n := by
  obtain ⟨ns, h1, h2, h3, rfl⟩ := (joinOk_iff d n).1 h
  have hj := join_flat h1 h3 h2
  have hN : NS (ns ++ [n]) := h1.append (b := [n]) ⟨by simp, by simpa using h3⟩ (by simp; omega)
  rw [hj.2]
  exact ⟨pathOk_flat hN (by simp), by rw [up_flat hN (by simp)]; simp, by rw [name_flat hN (by simp)]; simp⟩
theorem join_inj {d n e o : Bs} (h : joinOkL d n = true) (h' : joinOkL e o = true) : joinL e o = joinL d n ↔ (e = d ∧ o = n) := by
  constructor
  · intro he
    have h1 := join_path h
    have h2 := join_path h'
    rw [he] at h2
    exact ⟨h2.2.1.symm.trans h1.2.1, h2.2.2.symm.trans h1.2.2⟩
  · rintro ⟨rfl, rfl⟩; rfl
/-- What is below what: at the names. -/
theorem under_cases {a b : Bs} (h : underL a b = true) : ∃ i r, NS i ∧ r ≠ [] ∧ NS (i ++ r) ∧ a = flat (i ++ r) ∧ b = encP i := by
  have hp : pathOkL a = true := by simp [underL] at h; exact h.1
  obtain ⟨ns, h1, h2, rfl⟩ := (pathOk_iff a).1 hp
  by_cases hb : b = [47]
  · subst hb
    exact ⟨[], ns, ⟨by simp, by simp⟩, h2, by simpa using h1, rfl, rfl⟩
  · have hpb : pathOkL b = true := by simp [underL, hb] at h; exact h.2.1
    obtain ⟨ms, h3, h4, rfl⟩ := (pathOk_iff b).1 hpb
    obtain ⟨r, hr, rfl⟩ := (under_flat h1 h2 h3 h4).1 h
    exact ⟨ms, r, h3, hr, h1, rfl, by simp [encP, h4]⟩
theorem under_mk {i r : List Bs} (h1 : NS i) (h2 : r ≠ []) (h3 : NS (i ++ r)) : underL (flat (i ++ r)) (encP i) = true :=
  (under_encP h3 (by simp [h2]) h1).2 ⟨r, h2, rfl⟩
theorem under_path {a b : Bs} (h : underL a b = true) : pathOkL a = true := by simp [underL] at h; exact h.1
theorem under_anti {a b : Bs} (h : underL a b = true) : underL b a = false := by
  cases h' : underL b a with
  | false => rfl
  | true =>
    obtain ⟨i, r, h1, h2, h3, rfl, rfl⟩ := under_cases h
    obtain ⟨i', r', h1', h2', h3', e1, e2⟩ := under_cases h'
    have hi : i ≠ [] := by
      rintro rfl
      have := pathOk_flat h3' (by simp [h2'])
      rw [← e1] at this
      exact absurd this (by decide)
    have e3 : flat i = flat (i' ++ r') := by rw [← e1, encP, if_neg hi]
    have e4 := flat_inj h1 h3' e3
    have e5 : i ++ r = i' := by
      have : encP (i ++ r) = encP i' := by rw [← e2, encP, if_neg (by simp [h2])]
      exact encP_inj h3 h1' this
    have l1 := congrArg List.length e4
    have l2 := congrArg List.length e5
    simp at l1 l2
    have : r.length ≠ 0 := by simpa using h2
    omega
theorem under_trans {a b c : Bs} (h : underL a b = true) (h' : underL b c = true) : underL a c = true := by
  obtain ⟨i, r, h1, h2, h3, rfl, rfl⟩ := under_cases h
  obtain ⟨i', r', h1', h2', h3', e1, rfl⟩ := under_cases h'
  have hi : i ≠ [] := by
    rintro rfl
    have := pathOk_flat h3' (by simp [h2'])
    rw [← e1] at this
    exact absurd this (by decide)
  have e3 : flat i = flat (i' ++ r') := by rw [← e1, encP, if_neg hi]
  have e4 := flat_inj h1 h3' e3
  subst e4
  rw [List.append_assoc] at h3 ⊢
  exact under_mk h1' (by simp [h2]) h3
theorem under_up {a b : Bs} (h : pathOkL a = true) : underL a b = (b == upL a || underL (upL a) b) := by
  obtain ⟨i, n, h1, h2, h3, h4, rfl, h6, _⟩ := path_split h
  rw [h6, Bool.eq_iff_iff]
  simp only [Bool.or_eq_true, beq_iff_eq]
  constructor
  · intro hu
    obtain ⟨i', r', h1', h2', h3', e1, rfl⟩ := under_cases hu
    have e2 := flat_inj h4 h3' e1
    obtain ⟨r, m, rfl⟩ := ns_split h2'
    rw [← List.append_assoc] at e2
    obtain ⟨rfl, _⟩ := List.append_inj' e2 rfl
    by_cases hr : r = []
    · left; simp [hr]
    · right
      rw [encP, if_neg (by simp [hr])]
      exact under_mk h1' hr h1
  · rintro (rfl | hu)
    · exact under_mk h1 (by simp) h4
    · by_cases hi : i = []
      · subst hi
        have := under_path hu
        exact absurd this (by decide)
      · rw [encP, if_neg hi] at hu
        obtain ⟨i', r', h1', h2', h3', e1, rfl⟩ := under_cases hu
        have e2 := flat_inj h1 h3' e1
        subst e2
        rw [List.append_assoc] at h4 ⊢
        exact under_mk h1' (by simp) h4
end Go.Proofs.YtobbodbkdcbflaaDoor
namespace Go.Proofs.YtobbodbkdcbflaaDoor
open Go.Op
theorem less_nil (a : Bs) : bytesLess a [] = false := by cases a <;> rfl
theorem less_cons (a b : UInt8) (x y : Bs) : bytesLess (a :: x) (b :: y) = (decide (a < b) || (a == b && bytesLess x y)) := rfl
theorem u8_lt_irrefl (a : UInt8) : ¬ a < a := by rw [UInt8.lt_iff_toNat_lt]; omega
theorem less_irrefl (a : Bs) : bytesLess a a = false := by
  induction a with
  | nil => rfl
  | cons x a ih => rw [less_cons, ih]; simp
theorem less_trans {a b c : Bs} (h : bytesLess a b = true) (h' : bytesLess b c = true) : bytesLess a c = true := by
  induction a generalizing b c with
  | nil =>
    cases c with
    | nil => rw [less_nil] at h'; cases h'
    | cons _ _ => rfl
  | cons x a ih =>
    cases b with
    | nil => rw [less_nil] at h; cases h
    | cons y b =>
      cases c with
      | nil => rw [less_nil] at h'; cases h'
      | cons z c =>
        simp only [less_cons, Bool.or_eq_true, decide_eq_true_eq, Bool.and_eq_true, beq_iff_eq, UInt8.lt_iff_toNat_lt] at h h' ⊢
        rcases h with h | ⟨rfl, h⟩ <;> rcases h' with h' | ⟨rfl, h'⟩
        · left; omega
        · left; exact h
        · left; exact h'
        · right; exact ⟨rfl, ih h h'⟩
theorem less_total (a b : Bs) : bytesLess a b = true ∨ a = b ∨ bytesLess b a = true := by
  induction a generalizing b with
  | nil =>
    cases b with
    | nil => exact .inr (.inl rfl)
    | cons _ _ => exact .inl rfl
  | cons x a ih =>
    cases b with
    | nil => exact .inr (.inr rfl)
    | cons y b =>
      simp only [less_cons, Bool.or_eq_true, decide_eq_true_eq, Bool.and_eq_true, beq_iff_eq, UInt8.lt_iff_toNat_lt, List.cons.injEq]
      by_cases hlt : x.toNat < y.toNat
      · exact .inl (.inl hlt)
      · by_cases hgt : y.toNat < x.toNat
        · exact .inr (.inr (.inl hgt))
        · have : x = y := UInt8.toNat_inj.1 (by omega)
          subst this
          rcases ih b with h | h | h
          · exact .inl (.inr ⟨rfl, h⟩)
          · exact .inr (.inl ⟨rfl, h⟩)
          · exact .inr (.inr (.inr ⟨rfl, h⟩))
theorem less_asymm {a b : Bs} (h : bytesLess a b = true) : bytesLess b a = false := by
  cases h' : bytesLess b a with
  | false => rfl
  | true => have := less_trans h h'; rw [less_irrefl] at this; cases this
theorem less_ne {a b : Bs} (h : bytesLess a b = true) : a ≠ b := by rintro rfl; rw [less_irrefl] at h; cases h
theorem less_append (b : Bs) (x : UInt8) (y : Bs) : bytesLess b (b ++ x :: y) = true := by
  induction b with
  | nil => rfl
  | cons z b ih => rw [List.cons_append, less_cons, ih]; simp
theorem less_between {b c m : Bs} (h : bytesLess b c = true) (h' : bytesLess c (b ++ m) = true) : ∃ y, c = b ++ y ∧ y ≠ [] ∧ bytesLess y m = true := by
  induction b generalizing c with
  | nil =>
    refine ⟨c, rfl, ?_, h'⟩
    rintro rfl; cases h
  | cons x b ih =>
    cases c with
    | nil => rw [less_nil] at h; cases h
    | cons z c =>
      rw [List.cons_append] at h'
      simp only [less_cons, Bool.or_eq_true, decide_eq_true_eq, Bool.and_eq_true, beq_iff_eq, UInt8.lt_iff_toNat_lt] at h h'
      rcases h with h | ⟨rfl, h⟩
      · rcases h' with h' | ⟨rfl, h'⟩ <;> omega
      · rcases h' with h' | ⟨_, h'⟩
        · omega
        · obtain ⟨y, rfl, hy⟩ := ih h h'
          exact ⟨y, rfl, hy⟩
theorem flat_chars {ns : List Bs} (h : ∀ n ∈ ns, nameOkL n = true) : ∀ x ∈ flat ns, x = 47 ∨ isLo x = true := by
  induction ns with
  | nil => intro x hx; cases hx
  | cons n r ih =>
    intro x hx
    simp only [flat, List.mem_cons, List.mem_append] at hx
    rcases hx with rfl | hx | hx
    · exact .inl rfl
    · exact .inr (List.all_eq_true.1 ((nameOkL_iff n).1 (h n (by simp))).2.2 x hx)
    · exact ih (fun m hm => h m (by simp [hm])) x hx
theorem under_pre {a b : Bs} (h : underL a b = true) (hb : pathOkL b = true) : ∃ x, a = b ++ 47 :: x := by
  rw [under_eq] at h
  simp only [Bool.and_eq_true, l1UnderL, Bool.or_eq_true, beq_iff_eq] at h
  rcases h.2 with h2 | h2
  · exact absurd h2 (path_ne_root hb)
  · obtain ⟨x, hx⟩ := List.isPrefixOf_iff_prefix.1 h2
    exact ⟨x, by rw [← hx]; simp⟩
theorem under_of_pre {b x : Bs} (hb : pathOkL b = true) (ha : pathOkL (b ++ 47 :: x) = true) : underL (b ++ 47 :: x) b = true := by
  rw [under_eq, ha, hb]
  simp only [Bool.or_true, Bool.true_and, l1UnderL, Bool.or_eq_true, beq_iff_eq]
  exact .inr (List.isPrefixOf_iff_prefix.2 ⟨x, by simp⟩)
theorem under_less {a b : Bs} (h : underL a b = true) (hb : pathOkL b = true) : bytesLess b a = true := by
  obtain ⟨x, rfl⟩ := under_pre h hb
  exact less_append b 47 x
theorem between_under {a b c : Bs} (h : underL a b = true) (hb : pathOkL b = true) (hc : pathOkL c = true) (h1 : bytesLess b c = true) (h2 : bytesLess c a = true) : underL c b = true := by
  obtain ⟨x, rfl⟩ := under_pre h hb
  obtain ⟨y, rfl, hy, hl⟩ := less_between h1 h2
  cases y with
  | nil => exact absurd rfl hy
  | cons z y =>
    have hz : z = 47 := by
      obtain ⟨ns, hn, _, e⟩ := (pathOk_iff _).1 hc
      have := flat_chars hn.2 z (by rw [← e]; simp)
      rcases this with h | h
      · exact h
      · rw [less_cons] at hl
        simp only [Bool.or_eq_true, decide_eq_true_eq, Bool.and_eq_true, beq_iff_eq, UInt8.lt_iff_toNat_lt] at hl
        simp [isLo] at h
        rcases hl with hl | hl
        · have e47 : (47 : UInt8).toNat = 47 := rfl
          omega
        · exact hl.1
    subst hz
    exact under_of_pre hb hc
/-- A move at the names. -/
theorem move_cases {s f t : Bs} (h : pathOkL s = true) (h' : pathOkL f = true) (h'' : pathOkL t = true) :
    ∃ S F T, NS S ∧ S ≠ [] ∧ NS F ∧ F ≠ [] ∧ NS T ∧ T ≠ [] ∧ s = flat S ∧ f = flat F ∧ t = flat T := by
  obtain ⟨S, h1, h2, rfl⟩ := (pathOk_iff s).1 h
  obtain ⟨F, h3, h4, rfl⟩ := (pathOk_iff f).1 h'
  obtain ⟨T, h5, h6, rfl⟩ := (pathOk_iff t).1 h''
  exact ⟨S, F, T, h1, h2, h3, h4, h5, h6, rfl, rfl, rfl⟩
theorem from_iff {S F : List Bs} (hS : NS S) (hSn : S ≠ []) (hF : NS F) (hFn : F ≠ []) : (flat S = flat F ∨ underL (flat S) (flat F) = true) ↔ F <+: S := by
  rw [under_flat hS hSn hF hFn]
  constructor
  · rintro (h | ⟨r, _, rfl⟩)
    · rw [flat_inj hS hF h]; exact ⟨[], by simp⟩
    · exact ⟨r, rfl⟩
  · rintro ⟨r, rfl⟩
    by_cases hr : r = []
    · left; simp [hr]
    · exact .inr ⟨r, hr, rfl⟩
theorem NS.of_path {ns : List Bs} (h : pathOkL (flat ns) = true) (hn : ∀ n ∈ ns, nameOkL n = true) : NS ns := by
  obtain ⟨ms, h1, h2, e⟩ := (pathOk_iff _).1 h
  have : ns = ms := by
    cases ns with
    | nil => exact absurd h (by decide)
    | cons n r =>
      rw [← cut_flat h1 h2, ← e]
      exact (cutL_flat n r (fun m hm => name_no47 (hn m hm))).symm
  exact this ▸ h1
/-- What is moved: by the same names. -/
theorem moved_app {F T r : List Bs} (hs : NS (F ++ r)) (hF : NS F) (hFn : F ≠ []) : moved (flat (F ++ r)) (flat F) (flat T) = flat (T ++ r) := by
  rw [moved_flat hs (by simp [hFn]) hF hFn, if_pos ⟨r, rfl⟩]; simp
theorem moveOk_app {F T r : List Bs} (hs : NS (F ++ r)) (hF : NS F) (hFn : F ≠ []) (hT : NS T) (hTn : T ≠ []) : moveOkL (flat (F ++ r)) (flat F) (flat T) = true ↔ NS (T ++ r) := by
  have h1 := pathOk_flat hs (by simp [hFn])
  have h2 := pathOk_flat hF hFn
  have h3 := pathOk_flat hT hTn
  simp only [moveOkL, h1, h2, h3, moved_app hs hF hFn, Bool.true_and]
  constructor
  · intro h
    refine NS.of_path h (fun n hn => ?_)
    rcases List.mem_append.1 hn with h | h
    · exact hT.2 n h
    · exact hs.of_append.2.2 n h
  · intro h; exact pathOk_flat h (by simp [hTn])
theorem law_move {s f t : Bs} (h : moveOkL s f t = true) (hm : s = f ∨ underL s f = true) :
    moveOkL (moveL s f t) t f = true ∧ moveL (moveL s f t) t f = s ∧ (moveL s f t = t ↔ s = f) ∧ (s ≠ f → underL (moveL s f t) t = true ∧ nameL (moveL s f t) = nameL s) := by
  have hp : (pathOkL s = true ∧ pathOkL f = true) ∧ pathOkL t = true := by
    have h := h
    simp only [moveOkL, Bool.and_eq_true] at h
    exact h.1
  obtain ⟨S, F, T, h1, h2, h3, h4, h5, h6, rfl, rfl, rfl⟩ := move_cases hp.1.1 hp.1.2 hp.2
  obtain ⟨r, rfl⟩ := (from_iff h1 h2 h3 h4).1 hm
  have hN := (moveOk_app h1 h3 h4 h5 h6).1 h
  have e : moveL (flat (F ++ r)) (flat F) (flat T) = flat (T ++ r) := by rw [moveL, if_pos h, moved_app h1 h3 h4]
  have hb : moveOkL (flat (T ++ r)) (flat T) (flat F) = true := (moveOk_app hN h5 h6 h3 h4).2 h1
  rw [e]
  refine ⟨hb, by rw [moveL, if_pos hb, moved_app hN h5 h6], ?_, ?_⟩
  · constructor
    · intro he
      have := congrArg List.length (flat_inj hN h5 he)
      simp at this
      simp [this]
    · intro he
      have := congrArg List.length (flat_inj h1 h3 he)
      simp at this
      simp [this]
  · intro hne
    have hr : r ≠ [] := by rintro rfl; exact hne (by simp)
    refine ⟨(under_flat hN (by simp [h6]) h5 h6).2 ⟨r, hr, rfl⟩, ?_⟩
    obtain ⟨i, n, rfl⟩ := ns_split hr
    rw [name_flat hN (by simp), name_flat h1 (by simp)]
    simp [List.getLast?_append]
theorem move_stay {s f t : Bs} (h : moveOkL s f t = true) (hm : ¬ (s = f ∨ underL s f = true)) : moveL s f t = s := by
  rw [moveL, if_pos h, moved, if_neg hm]
theorem law_via {s f t v : Bs} (h : moveOkL s f v = true) (ht : pathOkL t = true) (hm : s = f ∨ underL s f = true) :
    moveOkL (moveL s f v) v t = moveOkL s f t ∧ moveL (moveL s f v) v t = moveL s f t := by
  have hp : (pathOkL s = true ∧ pathOkL f = true) ∧ pathOkL v = true := by
    have h := h
    simp only [moveOkL, Bool.and_eq_true] at h
    exact h.1
  obtain ⟨S, F, V, h1, h2, h3, h4, h5, h6, rfl, rfl, rfl⟩ := move_cases hp.1.1 hp.1.2 hp.2
  obtain ⟨T, h7, h8, rfl⟩ := (pathOk_iff t).1 ht
  obtain ⟨r, rfl⟩ := (from_iff h1 h2 h3 h4).1 hm
  have hN := (moveOk_app h1 h3 h4 h5 h6).1 h
  have e : moveL (flat (F ++ r)) (flat F) (flat V) = flat (V ++ r) := by rw [moveL, if_pos h, moved_app h1 h3 h4]
  have e2 : moveOkL (flat (V ++ r)) (flat V) (flat T) = moveOkL (flat (F ++ r)) (flat F) (flat T) := by
    rw [Bool.eq_iff_iff, moveOk_app hN h5 h6 h7 h8, moveOk_app h1 h3 h4 h7 h8]
  rw [e]
  refine ⟨e2, ?_⟩
  unfold moveL
  rw [e2, moved_app hN h5 h6, moved_app h1 h3 h4]
theorem via_bad {s f t : Bs} (ht : pathOkL t = false) : moveOkL s f t = false := by simp [moveOkL, ht]
end Go.Proofs.YtobbodbkdcbflaaDoor
namespace Go.Proofs.YtobbodbkdcbflaaDoor
open Go.Op
/-- An entry, plainly. -/
structure PE where
  p : Bs
  d : Bool
  x : Bs
deriving DecidableEq
/-- What is at a path. -/
def getL : List PE → Bs → Option PE
  | [], _ => none
  | e :: r, q => if e.p = q then some e else getL r q
def upCodeL (t : List PE) (q : Bs) : Nat :=
  if upL q = [47] then 0 else match getL t (upL q) with
    | none => 2
    | some e => if e.d then 0 else 3
def entOkL (e : PE) : Bool := pathOkL e.p && dataOkL e.x && (!e.d || e.x == [])
def Ord (t : List PE) : Prop := t.Pairwise fun a b => bytesLess a.p b.p = true
/-- A right tree. -/
structure TOk (t : List PE) : Prop where
  most : t.length ≤ 16
  ent : ∀ e ∈ t, entOkL e = true
  ord : Ord t
  up : ∀ e ∈ t, upCodeL t e.p = 0
theorem getL_some {t : List PE} {q : Bs} {e : PE} (h : getL t q = some e) : e ∈ t ∧ e.p = q := by
  induction t with
  | nil => cases h
  | cons a r ih =>
    unfold getL at h
    split at h
    · next hq => injection h with h; subst h; exact ⟨by simp, hq⟩
    · have := ih h; exact ⟨by simp [this.1], this.2⟩
theorem getL_none {t : List PE} {q : Bs} : getL t q = none ↔ ∀ e ∈ t, e.p ≠ q := by
  induction t with
  | nil => simp [getL]
  | cons a r ih =>
    unfold getL
    split
    · next h => simp [h]
    · next h => rw [ih]; simp [h]
theorem getL_mem {t : List PE} (h : Ord t) {e : PE} (he : e ∈ t) : getL t e.p = some e := by
  induction t with
  | nil => cases he
  | cons a r ih =>
    unfold getL
    rw [Ord, List.pairwise_cons] at h
    rcases List.mem_cons.1 he with rfl | hr
    · rw [if_pos rfl]
    · have := h.1 e hr
      rw [if_neg (less_ne this)]
      exact ih h.2 hr
theorem getL_append (a b : List PE) (q : Bs) : getL (a ++ b) q = match getL a q with | some e => some e | none => getL b q := by
  induction a with
  | nil => rfl
  | cons x r ih =>
    rw [List.cons_append, getL, getL]
    split
    · rfl
    · exact ih
theorem up_less {p : Bs} (h : pathOkL p = true) (hr : upL p ≠ [47]) : bytesLess (upL p) p = true := by
  obtain ⟨i, n, h1, _, _, h4, rfl, h6, _⟩ := path_split h
  rw [h6] at hr ⊢
  have hi : i ≠ [] := by rintro rfl; exact hr rfl
  rw [encP, if_neg hi, flat_append]
  exact less_append _ _ _
theorem up_path {p : Bs} (h : pathOkL p = true) (hr : upL p ≠ [47]) : pathOkL (upL p) = true := by
  obtain ⟨i, n, h1, _, _, h4, rfl, h6, _⟩ := path_split h
  rw [h6] at hr ⊢
  have hi : i ≠ [] := by rintro rfl; exact hr rfl
  rw [encP, if_neg hi]
  exact pathOk_flat h1 hi
/-- What is asked of the entry at place j, as the program asks. -/
def AskI (t : List PE) (j : Nat) (e : PE) : Prop := entOkL e = true ∧ (∀ f, 0 < j → t[j - 1]? = some f → bytesLess f.p e.p = true) ∧ upCodeL t e.p = 0
/-- As the reference asks: of those ahead. -/
def AskS (t : List PE) (j : Nat) (e : PE) : Prop := entOkL e = true ∧ (∀ f, 0 < j → t[j - 1]? = some f → bytesLess f.p e.p = true) ∧ upCodeL (t.take j) e.p = 0
theorem ord_of (t : List PE) (h : ∀ (j : Nat) (e f : PE), t[j]? = some e → 0 < j → t[j - 1]? = some f → bytesLess f.p e.p = true) : Ord t := by
  have key : ∀ (d i : Nat) (f e : PE), t[i]? = some f → t[i + d + 1]? = some e → bytesLess f.p e.p = true := by
    intro d
    induction d with
    | zero => intro i f e hf he; exact h (i + 1) e f he (by omega) (by simpa using hf)
    | succ d ih =>
      intro i f e hf he
      have hl : i + (d + 1) + 1 < t.length := (List.getElem?_eq_some_iff.1 he).1
      have hg : t[i + d + 1]? = some (t[i + d + 1]'(by omega)) := List.getElem?_eq_getElem (by omega)
      have h1 := ih i f _ hf hg
      have h2 := h (i + (d + 1) + 1) e (t[i + d + 1]'(by omega)) he (by omega) (by rw [show i + (d + 1) + 1 - 1 = i + d + 1 by omega]; exact hg)
      exact less_trans h1 h2
  rw [Ord, List.pairwise_iff_getElem]
  intro i j hi hj hij
  obtain ⟨d, rfl⟩ : ∃ d, j = i + d + 1 := ⟨j - i - 1, by omega⟩
  exact key d i _ _ (List.getElem?_eq_getElem hi) (List.getElem?_eq_getElem hj)
theorem ord_at {t : List PE} (h : Ord t) {i j : Nat} {f e : PE} (hij : i < j) (hf : t[i]? = some f) (he : t[j]? = some e) : bytesLess f.p e.p = true := by
  obtain ⟨h1, h2⟩ := List.getElem?_eq_some_iff.1 hf
  obtain ⟨h3, h4⟩ := List.getElem?_eq_some_iff.1 he
  have := (List.pairwise_iff_getElem.1 h) i j h1 h3 hij
  rw [h2, h4] at this
  exact this
theorem tok_iff (t : List PE) : TOk t ↔ t.length ≤ 16 ∧ ∀ (j : Nat) (e : PE), t[j]? = some e → AskI t j e := by
  constructor
  · intro h
    refine ⟨h.most, fun j e he => ⟨h.ent e (List.mem_of_getElem? he), fun f hj hf => ord_at h.ord (by omega) hf he, h.up e (List.mem_of_getElem? he)⟩⟩
  · rintro ⟨h1, h2⟩
    refine ⟨h1, fun e he => ?_, ord_of t (fun j e f he hj hf => (h2 j e he).2.1 f hj hf), fun e he => ?_⟩
    · obtain ⟨j, hj⟩ := List.getElem?_of_mem he
      exact (h2 j e hj).1
    · obtain ⟨j, hj⟩ := List.getElem?_of_mem he
      exact (h2 j e hj).2.2
/-- In an ordered list the parent of what stands at place j stands ahead of it. -/
theorem up_take {t : List PE} (h : Ord t) {j : Nat} {e : PE} (he : t[j]? = some e) (hp : pathOkL e.p = true) : upCodeL (t.take j) e.p = upCodeL t e.p := by
  unfold upCodeL
  by_cases hr : upL e.p = [47]
  · rw [if_pos hr, if_pos hr]
  · rw [if_neg hr, if_neg hr]
    have hg : getL t (upL e.p) = getL (t.take j) (upL e.p) := by
      conv => lhs; rw [← List.take_append_drop j t, getL_append]
      cases hc : getL (t.take j) (upL e.p) with
      | some f => rfl
      | none =>
        rw [getL_none]
        intro f hf hfe
        obtain ⟨i, hi⟩ := List.getElem?_of_mem hf
        rw [List.getElem?_drop] at hi
        have hl := up_less hp hr
        rw [← hfe] at hl
        by_cases h0 : i = 0
        · subst h0
          rw [Nat.add_zero, he] at hi
          injection hi with hi
          subst hi
          rw [less_irrefl] at hl; cases hl
        · have := ord_at h (by omega) he hi
          have := less_trans hl this
          rw [less_irrefl] at this; cases this
    rw [hg]
theorem tok_iffS (t : List PE) : TOk t ↔ t.length ≤ 16 ∧ ∀ (j : Nat) (e : PE), t[j]? = some e → AskS t j e := by
  rw [tok_iff]
  constructor
  · rintro ⟨h1, h2⟩
    have ho := ord_of t (fun j e f he hj hf => (h2 j e he).2.1 f hj hf)
    refine ⟨h1, fun j e he => ?_⟩
    obtain ⟨a, b, c⟩ := h2 j e he
    refine ⟨a, b, ?_⟩
    rw [up_take ho he (by simp [entOkL] at a; exact a.1.1)]
    exact c
  · rintro ⟨h1, h2⟩
    have ho := ord_of t (fun j e f he hj hf => (h2 j e he).2.1 f hj hf)
    refine ⟨h1, fun j e he => ?_⟩
    obtain ⟨a, b, c⟩ := h2 j e he
    refine ⟨a, b, ?_⟩
    rw [← up_take ho he (by simp [entOkL] at a; exact a.1.1)]
    exact c
end Go.Proofs.YtobbodbkdcbflaaDoor
namespace Go.Proofs.YtobbodbkdcbflaaDoor
open Go.RowKit
def En.pl (e : En) : PE := ⟨e.p.data.toList, e.d, e.x.data.toList⟩
theorem En.pl_inj {e f : En} (h : e.pl = f.pl) : e = f := by
  obtain ⟨p, d, x⟩ := e
  obtain ⟨p', d', x'⟩ := f
  simp only [En.pl, PE.mk.injEq] at h
  rw [bytes_eq h.1, h.2.1, bytes_eq h.2.2]
theorem new_free (w : World) (cs : Array Value) (t : TypeId) (j : Nat) : (w.alloc (.cells cs t)).frozen? ⟨w.heap.size, j, none⟩ = false := by
  unfold World.frozen?
  rw [show (w.alloc (.cells cs t)).heap[w.heap.size]? = some (.cells cs t (0, 0)) from heap_alloc_new w _]
  simp
/-- Three cells of a block, behind three stores into it and new blocks. -/
theorem three_set (w : World) (g : Nat) (u0 u1 u2 v0 v1 v2 : Value) (h0 : w.cell? ⟨g, 0, none⟩ = some u0) (h1 : w.cell? ⟨g, 1, none⟩ = some u1) (h2 : w.cell? ⟨g, 2, none⟩ = some u2) (o : Obj) :
    (((((w.setCell ⟨g, 0, none⟩ v0).setCell ⟨g, 1, none⟩ v1).setCell ⟨g, 2, none⟩ v2).alloc o).cell? ⟨g, 0, none⟩ = some v0) ∧
    (((((w.setCell ⟨g, 0, none⟩ v0).setCell ⟨g, 1, none⟩ v1).setCell ⟨g, 2, none⟩ v2).alloc o).cell? ⟨g, 1, none⟩ = some v1) ∧
    (((((w.setCell ⟨g, 0, none⟩ v0).setCell ⟨g, 1, none⟩ v1).setCell ⟨g, 2, none⟩ v2).alloc o).cell? ⟨g, 2, none⟩ = some v2) := by
  have hl : g < w.heap.size := World.block_lt_of_cell? _ _ h0
  have e : ∀ j, ((((w.setCell ⟨g, 0, none⟩ v0).setCell ⟨g, 1, none⟩ v1).setCell ⟨g, 2, none⟩ v2).alloc o).cell? ⟨g, j, none⟩ = (((w.setCell ⟨g, 0, none⟩ v0).setCell ⟨g, 1, none⟩ v1).setCell ⟨g, 2, none⟩ v2).cell? ⟨g, j, none⟩ := fun j =>
    World.cell?_alloc_lt _ _ _ (by simpa [World.setCell] using hl)
  rw [e, e, e]
  have n01 : (⟨g, 0, none⟩ : Addr) ≠ ⟨g, 1, none⟩ := by simp
  have n02 : (⟨g, 0, none⟩ : Addr) ≠ ⟨g, 2, none⟩ := by simp
  have n12 : (⟨g, 1, none⟩ : Addr) ≠ ⟨g, 2, none⟩ := by simp
  have a1 := (World.cell?_setCell_other w ⟨g, 0, none⟩ ⟨g, 1, none⟩ v0 n01).trans h1
  have a2 := (World.cell?_setCell_other w ⟨g, 0, none⟩ ⟨g, 2, none⟩ v0 n02).trans h2
  have b2 := (World.cell?_setCell_other (w.setCell ⟨g, 0, none⟩ v0) ⟨g, 1, none⟩ ⟨g, 2, none⟩ v1 n12).trans a2
  refine ⟨?_, ?_, ?_⟩
  · rw [World.cell?_setCell_other _ _ _ _ n02.symm, World.cell?_setCell_other _ _ _ _ n01.symm]
    exact World.cell?_setCell_same _ _ _ h0
  · rw [World.cell?_setCell_other _ _ _ _ n12.symm]
    exact World.cell?_setCell_same _ _ _ a1
  · exact World.cell?_setCell_same _ _ _ b2
/-- What is at a path, among entries as they lie. -/
def getE : List En → ByteArray → Option En
  | [], _ => none
  | e :: r, q => if e.p.data.toList = q.data.toList then some e else getE r q
theorem getE_pl (xs : List En) (q : ByteArray) : getL (xs.map En.pl) q.data.toList = (getE xs q).map En.pl := by
  induction xs with
  | nil => rfl
  | cons e r ih =>
    rw [List.map_cons, getL, getE]
    show (if e.p.data.toList = q.data.toList then some e.pl else getL (List.map En.pl r) q.data.toList) = _
    by_cases h : e.p.data.toList = q.data.toList
    · rw [if_pos h, if_pos h]; rfl
    · rw [if_neg h, if_neg h]; exact ih
theorem getE_skip (xs : List En) (q : ByteArray) (k : Nat) (e : En) (he : xs[k]? = some e) (h : ∀ (j : Nat) (f : En), j < k → xs[j]? = some f → f.p.data.toList ≠ q.data.toList) :
    getE xs q = if e.p.data.toList = q.data.toList then some e else getE (xs.drop (k + 1)) q := by
  induction xs generalizing k with
  | nil => simp at he
  | cons a r ih =>
    cases k with
    | zero => simp at he; subst he; rfl
    | succ k =>
      rw [getE, if_neg (h 0 a (by omega) rfl)]
      have := ih k (by simpa using he) (fun j f hj hf => h (j + 1) f (by omega) (by simpa using hf))
      simpa using this
theorem getE_none (xs : List En) (q : ByteArray) (h : ∀ (j : Nat) (f : En), xs[j]? = some f → f.p.data.toList ≠ q.data.toList) : getE xs q = none := by
  induction xs with
  | nil => rfl
  | cons a r ih =>
    rw [getE, if_neg (h 0 a rfl)]
    exact ih (fun j f hf => h (j + 1) f (by simpa using hf))
abbrev optV (o : Option En) : Value := match o with
  | some e => .tuple #[e.val, .bool true]
  | none => .tuple #[.agg #[.string ⟨#[]⟩, .bool false, .string ⟨#[]⟩], .bool false]
set_option maxHeartbeats 2000000 in
theorem entAt_c (a : Option Addr) (c : Nat) (xs : List En) (q : ByteArray) (o : Option En) (ho : Hid (getE xs q = o)) (w : World) (hs : SlF En.cells w a xs) (hx : xs.length ≤ maxLen) :
    Calls Tryd.prog 58 #[.slice a xs.length c, .string q] w fun r w' => r = .returned (optV o) ∧ Below w.heap.size w w' := by
  obtain ⟨n, hn⟩ : ∃ n, xs.length = n := ⟨_, rfl⟩
  rw [hn] at hx ⊢
  unfold maxLen at hx
  have HN := Lib.hid hn
  obtain ⟨z, hz⟩ : ∃ z, w.alloc (.cells #[.string ⟨#[]⟩, .bool false, .string ⟨#[]⟩] 41) = z := ⟨_, rfl⟩
  have HS := Lib.hid (hs.below (hz ▸ bellow_alloc w _ : Below w.heap.size w z))
  have hzs : z.heap.size = w.heap.size + 1 := by rw [← hz]; simp
  have c0 : z.cell? ⟨w.heap.size, 0, none⟩ = some (.string ⟨#[]⟩) := by rw [← hz]; exact new_cell _ _ _ 0 _ rfl
  have c1 : z.cell? ⟨w.heap.size, 1, none⟩ = some (.bool false) := by rw [← hz]; exact new_cell _ _ _ 1 _ rfl
  have c2 : z.cell? ⟨w.heap.size, 2, none⟩ = some (.string ⟨#[]⟩) := by rw [← hz]; exact new_cell _ _ _ 2 _ rfl
  have hfz : ∀ j, z.frozen? ⟨w.heap.size, j, none⟩ = false := fun j => by rw [← hz]; exact new_free w _ _ j
  have HW := Lib.hid (hz ▸ bellow_alloc w _ : Below w.heap.size w z)
  have HF := Lib.hid hfz
  have HC0 := Lib.hid c0
  have HC1 := Lib.hid c1
  have HC2 := Lib.hid c2
  have HZ := Lib.hid hzs
  clear hn hs hzs c0 c1 c2 hfz
  go_enter Tryd.func58, Tryd.ntmps58
  go_wp2
  clear hz
  go_loopw [7, 10] (fun _ i wr => ∃ k : Nat, k ≤ n ∧ i = .int .i64 k ∧ (∀ (j : Nat) (f : En), j < k → xs[j]? = some f → f.p.data.toList ≠ q.data.toList) ∧ Below z.heap.size z wr) (fun _ i _ => n - (intOf i).toNat)
  case atStart => exact ⟨0, Nat.zero_le _, rfl, fun j _ h => absurd h (by omega), Below.refl _ _⟩
  case round =>
    obtain ⟨k, hk, rfl, hall, hb⟩ := hrel
    have HA := Lib.hid hall
    clear hall
    have hlt0 : w.heap.size < wr.heap.size := by have := hb.size; rw [HZ.out] at this; omega
    have g0 := keepc hb HC0.out
    have g1 := keepc hb HC1.out
    have g2 := keepc hb HC2.out
    have f0 := (hb.frozen (p := ⟨w.heap.size, 0, none⟩) (by rw [HZ.out]; simp)).trans (HF.out 0)
    have f1 := (hb.frozen (p := ⟨w.heap.size, 1, none⟩) (by rw [HZ.out]; simp)).trans (HF.out 1)
    have f2 := (hb.frozen (p := ⟨w.heap.size, 2, none⟩) (by rw [HZ.out]; simp)).trans (HF.out 2)
    by_cases hlt : k < n
    · obtain ⟨e, hee⟩ : ∃ e, xs[k]? = some e := ⟨_, List.getElem?_eq_getElem (by rw [HN.out]; exact hlt)⟩
      have h2 := (HS.out.below hb)
      obtain ⟨b, off, rfl, _⟩ := h2.addr (by rw [HN.out]; omega)
      obtain ⟨c0, c1, c2⟩ := en_at h2 k e hee
      have hg := getE_skip xs q k e hee HA.out
      have HG := Lib.hid hg
      have HEE := Lib.hid hee
      clear h2 hg hee
      by_cases heq : e.p.data.toList = q.data.toList
      · have hq := beqs_yes heq
        obtain rfl : o = some e := by rw [← ho.out, HG.out, if_pos heq]
        clear heq
        go_wp2
        obtain ⟨q0, q1, q2⟩ := three_set wr w.heap.size _ _ _ (.string e.p) (.bool e.d) (.string e.x) g0 g1 g2 (.cells #[.string e.p, .bool e.d, .string e.x] 41)
        refine bodyPost_ret (v := optV (some e)) (by simp [results, Tryd.results58, go_sem, q0, q1, q2]) rfl ⟨rfl, ?_⟩
        have HB := HW.out.trans (hb.mono (by rw [HZ.out]; omega))
        repeat (first | exact HB | refine Below.alloc ?_ (by simp; try omega) _ | refine Below.setCell ?_ (by simp; try omega) _)
      · have hq := beqs_no heq
        have HQ := Lib.hid heq
        clear heq
        go_wp2
        go_roundw
        case rel => exact ⟨k + 1, by omega, by go_num, fun j f hj hf => by
          by_cases ej : j = k
          · subst ej
            rw [HEE.out] at hf
            injection hf with hf
            exact hf ▸ HQ.out
          · exact HA.out j f (by omega) hf, hb.alloc hb.size _⟩
        case measure => simp [intOf]; omega
    · obtain rfl : o = none := by
        rw [← ho.out]
        exact getE_none xs q (fun j f hf => HA.out j f (by have := (List.getElem?_eq_some_iff.1 hf).1; rw [HN.out] at this; omega) hf)
      go_wp2
      refine bodyPost_ret (v := optV none) (by simp [results, Tryd.results58, go_sem, g0, g1, g2]) rfl ⟨rfl, ?_⟩
      have HB := HW.out.trans (hb.mono (by rw [HZ.out]; omega))
      repeat (first | exact HB | refine Below.alloc ?_ (by simp; try omega) _ | refine Below.setCell ?_ (by simp; try omega) _)
def upC : Option En → Nat
  | none => 2
  | some e => if e.d then 0 else 3
theorem up_str20 (s : ByteArray) : ∃ r : ByteArray, Hid (upL s.data.toList = r.data.toList) ∧ r.size ≤ 20 := by
  obtain ⟨r, hr⟩ : ∃ r : ByteArray, upL s.data.toList = r.data.toList := ⟨⟨(upL s.data.toList).toArray⟩, by simp⟩
  refine ⟨r, hr, ?_⟩
  rw [← size_data, ← hr]
  unfold upL
  split
  · next hp =>
    have hn := pathOk_names hp
    unfold encP
    split
    · simp
    · have h6 := (flat_len hn.1.dropLast.2).1
      have h7 := hn.1.dropLast.1
      omega
  · simp
set_option maxHeartbeats 2000000 in
theorem upCode_c (a : Option Addr) (c : Nat) (xs : List En) (q : ByteArray) (m : Nat) (hm : Hid (upCodeL (xs.map En.pl) q.data.toList = m)) (w : World) (hs : SlF En.cells w a xs) (hx : xs.length ≤ maxLen) (hq : q.size ≤ maxLen) :
    Calls Tryd.prog 65 #[.slice a xs.length c, .string q] w fun r w' => r = .returned (.int .i64 m) ∧ Below w.heap.size w w' := by
  have hb := Below.refl w.heap.size w
  obtain ⟨u, hu, hus⟩ := up_str20 q
  obtain ⟨o, ho⟩ : ∃ o, getE xs u = o := ⟨_, rfl⟩
  have HM : Hid (m = if u.data.toList = [47] then 0 else upC o) := by
    rw [Hid, ← hm.out, upCodeL, hu.out, getE_pl, ho]
    cases o with
    | none => rfl
    | some e => rfl
  have HO := Lib.hid ho
  have HE := fun W (h : SlF En.cells W a xs) => Lib.hid (entAt_c a c xs u o HO W h hx)
  obtain ⟨n, hn⟩ : ∃ n, xs.length = n := ⟨_, rfl⟩
  rw [hn] at HE ⊢
  have GE := Lib.hid HE
  have HS := Lib.hid hs
  clear ho hs hx hn hm HE
  by_cases hr : u.data.toList = [47]
  · have hq2 := beq_yes hr
    obtain rfl : m = 0 := by rw [HM.out, if_pos hr]
    clear hr
    go_enter Tryd.func65, Tryd.ntmps65
    go_wp2_with fail
    refine (pathUp_c q u hu _ hq).mono ?_; rintro e W ⟨rfl, hq⟩; replace hb := chn hb hq; clear hq
    go_wp2
    go_ret
    exact ⟨rfl, hb⟩
  · have hq2 := beq_no hr
    cases o with
    | none =>
      obtain rfl : m = 2 := by rw [HM.out, if_neg hr]; rfl
      clear hr
      go_enter Tryd.func65, Tryd.ntmps65
      go_wp2_with fail
      refine (pathUp_c q u hu _ hq).mono ?_; rintro e W ⟨rfl, hq⟩; replace hb := chn hb hq; clear hq
      go_wp2_with fail
      refine ((GE.out _ (HS.out.below hb)).out).mono ?_; rintro e W ⟨rfl, hq⟩; replace hb := chn hb hq; clear hq
      go_wp2
      go_ret
      exact ⟨rfl, by repeat (first | exact hb | refine Below.alloc ?_ (by have := hb.size; simp; try omega) _)⟩
    | some e =>
      obtain ⟨p, d, x⟩ := e
      cases d with
      | true =>
        obtain rfl : m = 0 := by rw [HM.out, if_neg hr]; rfl
        clear hr
        go_enter Tryd.func65, Tryd.ntmps65
        go_wp2_with fail
        refine (pathUp_c q u hu _ hq).mono ?_; rintro e W ⟨rfl, hq⟩; replace hb := chn hb hq; clear hq
        go_wp2_with fail
        refine ((GE.out _ (HS.out.below hb)).out).mono ?_; rintro e W ⟨rfl, hq⟩; replace hb := chn hb hq; clear hq
        go_wp2
        go_ret
        exact ⟨rfl, by repeat (first | exact hb | refine Below.alloc ?_ (by have := hb.size; simp; try omega) _)⟩
      | false =>
        obtain rfl : m = 3 := by rw [HM.out, if_neg hr]; rfl
        clear hr
        go_enter Tryd.func65, Tryd.ntmps65
        go_wp2_with fail
        refine (pathUp_c q u hu _ hq).mono ?_; rintro e W ⟨rfl, hq⟩; replace hb := chn hb hq; clear hq
        go_wp2_with fail
        refine ((GE.out _ (HS.out.below hb)).out).mono ?_; rintro e W ⟨rfl, hq⟩; replace hb := chn hb hq; clear hq
        go_wp2
        go_ret
        exact ⟨rfl, by repeat (first | exact hb | refine Below.alloc ?_ (by have := hb.size; simp; try omega) _)⟩
end Go.Proofs.YtobbodbkdcbflaaDoor
