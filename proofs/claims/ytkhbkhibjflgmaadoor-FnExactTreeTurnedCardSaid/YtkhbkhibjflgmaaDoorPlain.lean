/- Plain mathematics of paths: names, cutting at strokes, parents, descent, moves. No program in sight. Conditions: none. -/
import GoSem.Op.String
namespace Go.Proofs.YtkhbkhibjflgmaaDoor
abbrev Bs := List UInt8
def isLo (c : UInt8) : Bool := decide (97 ≤ c.toNat) && decide (c.toNat ≤ 122)
def nameOkL (l : Bs) : Bool := decide (1 ≤ l.length) && decide (l.length ≤ 3) && l.all isLo
def isData (c : UInt8) : Bool := isLo c || (decide (48 ≤ c.toNat) && decide (c.toNat ≤ 57))
def dataOkL (l : Bs) : Bool := decide (l.length ≤ 6) && l.all isData
def cutL : Bs → List Bs
  | [] => [[]]
  | x :: r => if x = 47 then [] :: cutL r else match cutL r with
    | [] => [[x]]
    | p :: ps => (x :: p) :: ps
def flat : List Bs → Bs
  | [] => []
  | n :: r => 47 :: (n ++ flat r)
def pathOkL (l : Bs) : Bool := decide (l.length ≤ 12) && (l.head? == some 47) && decide ((cutL l.tail).length ≤ 3) && (cutL l.tail).all nameOkL
/-- The path of names; the root, if there are none. -/
def encP (ns : List Bs) : Bs := if ns = [] then [47] else flat ns
def levelsL (l : Bs) : Nat := if pathOkL l then (cutL l.tail).length else 0
def nameL (l : Bs) : Bs := if pathOkL l then ((cutL l.tail).getLast?).getD [] else []
def upL (l : Bs) : Bs := if pathOkL l then encP (cutL l.tail).dropLast else []
def joinOkL (d n : Bs) : Bool := nameOkL n && (d == [47] || (pathOkL d && decide (levelsL d < 3)))
def joinL (d n : Bs) : Bs := if joinOkL d n then (if d = [47] then 47 :: n else d ++ 47 :: n) else []
def underL (s d : Bs) : Bool := pathOkL s && (d == [47] || (pathOkL d && (d ++ [47]).isPrefixOf s))
def moved (s f t : Bs) : Bs := if s = f ∨ underL s f = true then t ++ s.drop f.length else s
def moveOkL (s f t : Bs) : Bool := pathOkL s && pathOkL f && pathOkL t && pathOkL (moved s f t)
def moveL (s f t : Bs) : Bs := if moveOkL s f t then moved s f t else []

def opOkL (k : Int) (p t d : Bs) : Bool :=
  pathOkL p && (if k = 5 then pathOkL t && d == [] else if k = 2 then t == [] && dataOkL d else if k = 1 ∨ k = 3 ∨ k = 4 then t == [] && d == [] else false)

/-- Right names: at most three, each a name. -/
def NS (ns : List Bs) : Prop := ns.length ≤ 3 ∧ ∀ n ∈ ns, nameOkL n = true

theorem nameOkL_iff (l : Bs) : nameOkL l = true ↔ 1 ≤ l.length ∧ l.length ≤ 3 ∧ l.all isLo = true := by
  simp [nameOkL, and_assoc]
theorem dataOkL_iff (l : Bs) : dataOkL l = true ↔ l.length ≤ 6 ∧ l.all isData = true := by
  simp [dataOkL]
theorem name_no47 {n : Bs} (h : nameOkL n = true) : (47 : UInt8) ∉ n := by
  intro hm
  have h3 := ((nameOkL_iff n).1 h).2.2
  rw [List.all_eq_true] at h3
  have := h3 47 hm
  revert this; decide
theorem name_ne {n : Bs} (h : nameOkL n = true) : n ≠ [] := by
  rintro rfl; simp [nameOkL] at h

theorem cutL_ne (l : Bs) : cutL l ≠ [] := by
  cases l with
  | nil => simp [cutL]
  | cons x r =>
    unfold cutL
    split
    · simp
    · split <;> simp
theorem cutL_one (n : Bs) (h : (47 : UInt8) ∉ n) : cutL n = [n] := by
  induction n with
  | nil => rfl
  | cons x r ih =>
    simp only [List.mem_cons, not_or] at h
    rw [cutL, if_neg (fun e => h.1 e.symm), ih h.2]
theorem cutL_app (n m : Bs) (h : (47 : UInt8) ∉ n) : cutL (n ++ 47 :: m) = n :: cutL m := by
  induction n with
  | nil => simp [cutL]
  | cons x r ih =>
    simp only [List.mem_cons, not_or] at h
    rw [List.cons_append, cutL, if_neg (fun e => h.1 e.symm), ih h.2]
theorem cutL_flat (n : Bs) (r : List Bs) (h : ∀ m ∈ n :: r, (47 : UInt8) ∉ m) : cutL (n ++ flat r) = n :: r := by
  induction r generalizing n with
  | nil => simpa [flat] using cutL_one n (h n (by simp))
  | cons m r ih =>
    rw [flat, cutL_app n _ (h n (by simp)), ih m (fun x hx => h x (by simp at hx ⊢; exact .inr hx))]
theorem flat_cut (l : Bs) : flat (cutL l) = 47 :: l := by
  induction l with
  | nil => rfl
  | cons x r ih =>
    unfold cutL
    split
    · next h => subst h; rw [flat, ih]; rfl
    · split
      · next h => exact absurd h (cutL_ne r)
      · next p ps h => rw [h] at ih; simp only [flat, List.cons.injEq, true_and] at ih ⊢; rw [List.cons_append, ih]
theorem flat_append (a b : List Bs) : flat (a ++ b) = flat a ++ flat b := by
  induction a with
  | nil => rfl
  | cons n a ih => simp [flat, ih]
theorem NS.no47 {ns : List Bs} (h : NS ns) : ∀ m ∈ ns, (47 : UInt8) ∉ m := fun m hm => name_no47 (h.2 m hm)
theorem cut_flat {ns : List Bs} (h : NS ns) (hne : ns ≠ []) : cutL (flat ns).tail = ns := by
  cases ns with
  | nil => exact absurd rfl hne
  | cons n r => exact cutL_flat n r (h.no47)
theorem flat_len {ns : List Bs} (h : ∀ n ∈ ns, nameOkL n = true) : (flat ns).length ≤ 4 * ns.length ∧ 2 * ns.length ≤ (flat ns).length := by
  induction ns with
  | nil => simp [flat]
  | cons n r ih =>
    have h1 := (nameOkL_iff n).1 (h n (by simp))
    have h2 := ih (fun m hm => h m (by simp [hm]))
    simp [flat]; omega
theorem flat_head {ns : List Bs} (hne : ns ≠ []) : (flat ns).head? = some 47 := by
  cases ns with
  | nil => exact absurd rfl hne
  | cons n r => rfl
theorem pathOk_flat {ns : List Bs} (h : NS ns) (hne : ns ≠ []) : pathOkL (flat ns) = true := by
  have h1 := flat_len h.2
  have h2 := h.1
  simp only [pathOkL, cut_flat h hne, flat_head hne, Bool.and_eq_true, decide_eq_true_eq, beq_self_eq_true, List.all_eq_true]
  exact ⟨⟨⟨by omega, trivial⟩, h2⟩, h.2⟩
theorem pathOk_names {l : Bs} (h : pathOkL l = true) : NS (cutL l.tail) ∧ cutL l.tail ≠ [] ∧ l = flat (cutL l.tail) := by
  simp only [pathOkL, Bool.and_eq_true, decide_eq_true_eq, beq_iff_eq, List.all_eq_true] at h
  obtain ⟨⟨⟨_, h2⟩, h3⟩, h4⟩ := h
  refine ⟨⟨h3, h4⟩, cutL_ne _, ?_⟩
  rw [flat_cut]
  cases l with
  | nil => simp at h2
  | cons x r => simp at h2; subst h2; rfl
theorem pathOk_iff (l : Bs) : pathOkL l = true ↔ ∃ ns, NS ns ∧ ns ≠ [] ∧ l = flat ns :=
  ⟨fun h => ⟨_, pathOk_names h⟩, fun ⟨_, h, hne, e⟩ => e ▸ pathOk_flat h hne⟩
theorem flat_inj {a b : List Bs} (ha : NS a) (hb : NS b) (h : flat a = flat b) : a = b := by
  by_cases h1 : a = []
  · subst h1
    cases b with
    | nil => rfl
    | cons n r => simp [flat] at h
  · by_cases h2 : b = []
    · subst h2
      cases a with
      | nil => rfl
      | cons n r => simp [flat] at h
    · rw [← cut_flat ha h1, ← cut_flat hb h2, h]
theorem root_no : pathOkL [47] = false := by decide
theorem empty_no : pathOkL [] = false := by decide
theorem path_ne_root {l : Bs} (h : pathOkL l = true) : l ≠ [47] := by rintro rfl; rw [root_no] at h; cases h
theorem path_len {l : Bs} (h : pathOkL l = true) : 2 ≤ l.length ∧ l.length ≤ 12 := by
  obtain ⟨ns, h1, h2, rfl⟩ := (pathOk_iff l).1 h
  have h3 := flat_len h1.2
  have h4 := h1.1
  have : 1 ≤ ns.length := by cases ns with
    | nil => exact absurd rfl h2
    | cons _ _ => simp
  omega
theorem encP_inj {a b : List Bs} (ha : NS a) (hb : NS b) (h : encP a = encP b) : a = b := by
  unfold encP at h
  split at h <;> split at h
  · next h1 h2 => rw [h1, h2]
  · next h1 h2 => have := pathOk_flat hb h2; rw [← h] at this; exact absurd this (by decide)
  · next h1 h2 => have := pathOk_flat ha h1; rw [h] at this; exact absurd this (by decide)
  · exact flat_inj ha hb h
theorem NS.dropLast {ns : List Bs} (h : NS ns) : NS ns.dropLast :=
  ⟨by have := h.1; simp; omega, fun n hn => h.2 n ((List.dropLast_sublist ns).subset hn)⟩
theorem up_flat {ns : List Bs} (h : NS ns) (hne : ns ≠ []) : upL (flat ns) = encP ns.dropLast := by
  rw [upL, if_pos (pathOk_flat h hne), cut_flat h hne]
theorem name_flat {ns : List Bs} (h : NS ns) (hne : ns ≠ []) : nameL (flat ns) = ns.getLast?.getD [] := by
  rw [nameL, if_pos (pathOk_flat h hne), cut_flat h hne]
theorem levels_flat {ns : List Bs} (h : NS ns) (hne : ns ≠ []) : levelsL (flat ns) = ns.length := by
  rw [levelsL, if_pos (pathOk_flat h hne), cut_flat h hne]

theorem cutL_flat_app (n : Bs) (r : List Bs) (x : Bs) (h : ∀ m ∈ n :: r, (47 : UInt8) ∉ m) : cutL (n ++ flat r ++ 47 :: x) = n :: r ++ cutL x := by
  induction r generalizing n with
  | nil => simpa [flat] using cutL_app n x (h n (by simp))
  | cons m r ih =>
    have : n ++ flat (m :: r) ++ 47 :: x = n ++ 47 :: (m ++ flat r ++ 47 :: x) := by simp [flat]
    rw [this, cutL_app n _ (h n (by simp)), ih m (fun y hy => h y (by simp at hy ⊢; exact .inr hy))]
    rfl
theorem flat_pre {s d : List Bs} {x : Bs} (hs : NS s) (hd : NS d) (hne : d ≠ []) (h : flat s = flat d ++ 47 :: x) : s = d ++ cutL x := by
  have hsn : s ≠ [] := by
    rintro rfl
    simp [flat] at h
  have h1 := cut_flat hs hsn
  rw [h] at h1
  cases d with
  | nil => exact absurd rfl hne
  | cons n r =>
    rw [← h1]
    exact cutL_flat_app n r x hd.no47
theorem NS.of_append {a b : List Bs} (h : NS (a ++ b)) : NS a ∧ NS b := by
  have h1 := h.1
  rw [List.length_append] at h1
  exact ⟨⟨by omega, fun n hn => h.2 n (by simp [hn])⟩, ⟨by omega, fun n hn => h.2 n (by simp [hn])⟩⟩
theorem NS.append {a b : List Bs} (ha : NS a) (hb : NS b) (h : a.length + b.length ≤ 3) : NS (a ++ b) :=
  ⟨by simpa using h, fun n hn => by
    rcases List.mem_append.1 hn with h | h
    · exact ha.2 n h
    · exact hb.2 n h⟩
/-- What the reference asks of a right path. -/
def l1UnderL (s d : Bs) : Bool := d == [47] || (d ++ [47]).isPrefixOf s
theorem l1Under_flat {s d : List Bs} (hs : NS s) (hd : NS d) (hdn : d ≠ []) : l1UnderL (flat s) (flat d) = true ↔ ∃ r, r ≠ [] ∧ s = d ++ r := by
  have hr : (flat d == [47]) = false := by
    rw [beq_eq_false_iff_ne]
    exact path_ne_root (pathOk_flat hd hdn)
  simp only [l1UnderL, hr, Bool.false_or, List.isPrefixOf_iff_prefix]
  constructor
  · rintro ⟨x, hx⟩
    have : flat s = flat d ++ 47 :: x := by rw [← hx]; simp
    exact ⟨cutL x, cutL_ne x, flat_pre hs hd hdn this⟩
  · rintro ⟨r, hr, rfl⟩
    cases r with
    | nil => exact absurd rfl hr
    | cons n r => exact ⟨n ++ flat r, by simp [flat_append, flat]⟩
theorem under_eq (s d : Bs) : underL s d = (pathOkL s && (d == [47] || pathOkL d) && l1UnderL s d) := by
  simp only [underL, l1UnderL]
  by_cases h : d = [47]
  · subst h; simp
  · have : (d == [47]) = false := by simpa using h
    rw [this]; simp [Bool.and_assoc]
theorem under_flat {s d : List Bs} (hs : NS s) (hsn : s ≠ []) (hd : NS d) (hdn : d ≠ []) : underL (flat s) (flat d) = true ↔ ∃ r, r ≠ [] ∧ s = d ++ r := by
  rw [under_eq, pathOk_flat hs hsn, pathOk_flat hd hdn, Bool.or_true, Bool.true_and, Bool.true_and, l1Under_flat hs hd hdn]
theorem under_root {s : Bs} (hs : pathOkL s = true) : underL s [47] = true := by simp [underL, hs]
theorem under_encP {s d : List Bs} (hs : NS s) (hsn : s ≠ []) (hd : NS d) : underL (flat s) (encP d) = true ↔ ∃ r, r ≠ [] ∧ s = d ++ r := by
  by_cases h : d = []
  · subst h
    simp only [encP, if_pos]
    exact ⟨fun _ => ⟨s, hsn, rfl⟩, fun _ => under_root (pathOk_flat hs hsn)⟩
  · rw [encP, if_neg h]; exact under_flat hs hsn hd h
theorem moved_flat {s f t : List Bs} (hs : NS s) (hsn : s ≠ []) (hf : NS f) (hfn : f ≠ []) : moved (flat s) (flat f) (flat t) = flat (if f <+: s then t ++ s.drop f.length else s) := by
  have key : (flat s = flat f ∨ underL (flat s) (flat f) = true) ↔ f <+: s := by
    rw [under_flat hs hsn hf hfn]
    constructor
    · rintro (h | ⟨r, _, rfl⟩)
      · rw [flat_inj hs hf h]; exact ⟨[], by simp⟩
      · exact ⟨r, rfl⟩
    · rintro ⟨r, rfl⟩
      by_cases hr : r = []
      · left; simp [hr]
      · exact .inr ⟨r, hr, rfl⟩
  unfold moved
  by_cases h : f <+: s
  · rw [if_pos (key.2 h), if_pos h]
    obtain ⟨r, rfl⟩ := h
    rw [flat_append, flat_append]
    simp
  · rw [if_neg (fun e => h (key.1 e)), if_neg h]
theorem join_flat {d : List Bs} {n : Bs} (hd : NS d) (hn : nameOkL n = true) (h3 : d.length < 3) : joinOkL (encP d) n = true ∧ joinL (encP d) n = flat (d ++ [n]) := by
  by_cases h : d = []
  · subst h
    have : joinOkL (encP []) n = true := by simp [joinOkL, encP, hn]
    exact ⟨this, by rw [joinL, if_pos this]; simp [encP, flat]⟩
  · have hp := pathOk_flat hd h
    have hr := path_ne_root hp
    have : joinOkL (encP d) n = true := by simp [joinOkL, encP, h, hn, hp, levels_flat hd h, h3]
    exact ⟨this, by rw [joinL, if_pos this]; simp [encP, h, hr, flat_append, flat]⟩
theorem joinOk_iff (d n : Bs) : joinOkL d n = true ↔ ∃ ns, NS ns ∧ ns.length < 3 ∧ nameOkL n = true ∧ d = encP ns := by
  constructor
  · intro h
    simp only [joinOkL, Bool.and_eq_true, Bool.or_eq_true, beq_iff_eq, decide_eq_true_eq] at h
    obtain ⟨h1, h2 | ⟨h2, h3⟩⟩ := h
    · exact ⟨[], ⟨by simp, by simp⟩, by simp, h1, by simp [h2, encP]⟩
    · obtain ⟨ns, hs, hne, rfl⟩ := (pathOk_iff d).1 h2
      rw [levels_flat hs hne] at h3
      exact ⟨ns, hs, h3, h1, by simp [encP, hne]⟩
  · rintro ⟨ns, h1, h2, h3, rfl⟩
    exact (join_flat h1 h3 h2).1
/-- The reference's way to join: what comes is asked whether it is a path. -/
theorem joinOk_spec (d n : Bs) : joinOkL d n = (nameOkL n && (d == [47] || pathOkL d) && pathOkL (if d = [47] then 47 :: n else d ++ 47 :: n)) := by
  rw [Bool.eq_iff_iff]
  constructor
  · intro h
    obtain ⟨ns, h1, h2, h3, rfl⟩ := (joinOk_iff d n).1 h
    have hj := join_flat h1 h3 h2
    have hp : pathOkL (flat (ns ++ [n])) = true := pathOk_flat (h1.append (b := [n]) ⟨by simp, by simpa using h3⟩ (by simp; omega)) (by simp)
    rw [← hj.2, joinL, if_pos h] at hp
    have hd : (encP ns == [47] || pathOkL (encP ns)) = true := by
      by_cases e : ns = []
      · subst e; rfl
      · simp [encP, e, pathOk_flat h1 e]
    simp [h3, hd, hp]
  · simp only [Bool.and_eq_true]
    rintro ⟨⟨h1, h2⟩, h3⟩
    by_cases h : d = [47]
    · subst h; simp [joinOkL, h1]
    · rw [if_neg h] at h3
      have hd : pathOkL d = true := by simpa [h] using h2
      obtain ⟨ns, hs, hne, rfl⟩ := (pathOk_iff d).1 hd
      have he : flat ns ++ 47 :: n = flat (ns ++ [n]) := by simp [flat_append, flat]
      obtain ⟨ms, hm, hmn, hfl⟩ := (pathOk_iff _).1 h3
      have : ms = ns ++ cutL n := flat_pre hm hs hne hfl.symm
      rw [cutL_one n (name_no47 h1)] at this
      have hl := hm.1
      rw [this] at hl
      simp [joinOkL, h1, hd, levels_flat hs hne]
      simp at hl; omega
end Go.Proofs.YtkhbkhibjflgmaaDoor
