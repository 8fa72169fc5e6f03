/- Plain laws of paths: what the statements of chapter 1 ask. No program in sight. Conditions: each theorem's own. -/
import Derived.Test.YtkhbkhibjflgmaaDoorPlain
namespace Go.Proofs.YtkhbkhibjflgmaaDoor
theorem ns_split {ns : List Bs} (hne : ns ≠ []) : ∃ i n, ns = i ++ [n] := ⟨ns.dropLast, ns.getLast hne, (List.dropLast_concat_getLast hne).symm⟩
theorem path_split {l : Bs} (h : pathOkL l = true) : ∃ (i : List Bs) (n : Bs), NS i ∧ i.length < 3 ∧ nameOkL n = true ∧ NS (i ++ [n]) ∧ l = flat (i ++ [n]) ∧ upL l = encP i ∧ nameL l = n := by
  obtain ⟨ns, h1, h2, rfl⟩ := (pathOk_iff l).1 h
  obtain ⟨i, n, rfl⟩ := ns_split h2
  have h3 := h1.1
  simp at h3
  exact ⟨i, n, h1.of_append.1, by omega, h1.2 n (by simp), h1, rfl, by rw [up_flat h1 h2]; simp, by rw [name_flat h1 h2]; simp⟩
theorem levels_encP {i : List Bs} (h : NS i) : levelsL (encP i) = i.length := by
  by_cases he : i = []
  · subst he; decide
  · rw [encP, if_neg he, levels_flat h he]
theorem not_under_self (l : Bs) : underL l l = false := by
  cases h : underL l l with
  | false => rfl
  | true =>
    have hp : pathOkL l = true := by simp [underL] at h; exact h.1
    obtain ⟨ns, h1, h2, rfl⟩ := (pathOk_iff l).1 hp
    obtain ⟨r, hr, e⟩ := (under_flat h1 h2 h1 h2).1 h
    have := congrArg List.length e
    simp at this
    exact absurd this hr
theorem law_path {l : Bs} (h : pathOkL l = true) : joinOkL (upL l) (nameL l) = true ∧ joinL (upL l) (nameL l) = l ∧ underL l (upL l) = true ∧ levelsL l = levelsL (upL l) + 1 := by
  obtain ⟨i, n, h1, h2, h3, h4, rfl, h6, h7⟩ := path_split h
  rw [h6, h7]
  have hj := join_flat h1 h3 h2
  refine ⟨hj.1, hj.2, ?_, ?_⟩
  · exact (under_encP h4 (by simp) h1).2 ⟨[n], by simp, rfl⟩
  · rw [levels_encP h1, levels_flat h4 (by simp)]; simp
theorem no_path {l : Bs} (h : pathOkL l = false) : upL l = [] ∧ nameL l = [] ∧ levelsL l = 0 := by simp [upL, nameL, levelsL, h]
theorem join_path {d n : Bs} (h : joinOkL d n = true) : pathOkL (joinL d n) = true ∧ upL (joinL d n) = d ∧ nameL (joinL d n) = n := by
  obtain ⟨ns, h1, h2, h3, rfl⟩ := (joinOk_iff d n).1 h
  have hj := join_flat h1 h3 h2
  have hN : NS (ns ++ [n]) := h1.append (b := [n]) ⟨by simp, by simpa using h3⟩ (by simp; omega)
  rw [hj.2]
  exact ⟨pathOk_flat hN (by simp), by rw [up_flat hN (by simp)]; simp, by rw [name_flat hN (by simp)]; simp⟩
theorem join_inj {d n e o : Bs} (h : joinOkL d n = true) (h' : joinOkL e o = true) : joinL e o = joinL d n ↔ (e = d ∧ o = n) := by
  constructor
  · intro he
    have h1 := join_path h
    have h2 := join_path h'
    rw [he] at h2
    exact ⟨h2.2.1.symm.trans h1.2.1, h2.2.2.symm.trans h1.2.2⟩
  · rintro ⟨rfl, rfl⟩; rfl
/-- What is below what: at the names. -/
theorem under_cases {a b : Bs} (h : underL a b = true) : ∃ i r, NS i ∧ r ≠ [] ∧ NS (i ++ r) ∧ a = flat (i ++ r) ∧ b = encP i := by
  have hp : pathOkL a = true := by simp [underL] at h; exact h.1
  obtain ⟨ns, h1, h2, rfl⟩ := (pathOk_iff a).1 hp
  by_cases hb : b = [47]
  · subst hb
    exact ⟨[], ns, ⟨by simp, by simp⟩, h2, by simpa using h1, rfl, rfl⟩
  · have hpb : pathOkL b = true := by simp [underL, hb] at h; exact h.2.1
    obtain ⟨ms, h3, h4, rfl⟩ := (pathOk_iff b).1 hpb
    obtain ⟨r, hr, rfl⟩ := (under_flat h1 h2 h3 h4).1 h
    exact ⟨ms, r, h3, hr, h1, rfl, by simp [encP, h4]⟩
theorem under_mk {i r : List Bs} (h1 : NS i) (h2 : r ≠ []) (h3 : NS (i ++ r)) : underL (flat (i ++ r)) (encP i) = true :=
  (under_encP h3 (by simp [h2]) h1).2 ⟨r, h2, rfl⟩
theorem under_path {a b : Bs} (h : underL a b = true) : pathOkL a = true := by simp [underL] at h; exact h.1
theorem under_anti {a b : Bs} (h : underL a b = true) : underL b a = false := by
  cases h' : underL b a with
  | false => rfl
  | true =>
    obtain ⟨i, r, h1, h2, h3, rfl, rfl⟩ := under_cases h
    obtain ⟨i', r', h1', h2', h3', e1, e2⟩ := under_cases h'
    have hi : i ≠ [] := by
      rintro rfl
      have := pathOk_flat h3' (by simp [h2'])
      rw [← e1] at this
      exact absurd this (by decide)
    have e3 : flat i = flat (i' ++ r') := by rw [← e1, encP, if_neg hi]
    have e4 := flat_inj h1 h3' e3
    have e5 : i ++ r = i' := by
      have : encP (i ++ r) = encP i' := by rw [← e2, encP, if_neg (by simp [h2])]
      exact encP_inj h3 h1' this
    have l1 := congrArg List.length e4
    have l2 := congrArg List.length e5
    simp at l1 l2
    have : r.length ≠ 0 := by simpa using h2
    omega
theorem under_trans {a b c : Bs} (h : underL a b = true) (h' : underL b c = true) : underL a c = true := by
  obtain ⟨i, r, h1, h2, h3, rfl, rfl⟩ := under_cases h
  obtain ⟨i', r', h1', h2', h3', e1, rfl⟩ := under_cases h'
  have hi : i ≠ [] := by
    rintro rfl
    have := pathOk_flat h3' (by simp [h2'])
    rw [← e1] at this
    exact absurd this (by decide)
  have e3 : flat i = flat (i' ++ r') := by rw [← e1, encP, if_neg hi]
  have e4 := flat_inj h1 h3' e3
  subst e4
  rw [List.append_assoc] at h3 ⊢
  exact under_mk h1' (by simp [h2]) h3
theorem under_up {a b : Bs} (h : pathOkL a = true) : underL a b = (b == upL a || underL (upL a) b) := by
  obtain ⟨i, n, h1, h2, h3, h4, rfl, h6, _⟩ := path_split h
  rw [h6, Bool.eq_iff_iff]
  simp only [Bool.or_eq_true, beq_iff_eq]
  constructor
  · intro hu
    obtain ⟨i', r', h1', h2', h3', e1, rfl⟩ := under_cases hu
    have e2 := flat_inj h4 h3' e1
    obtain ⟨r, m, rfl⟩ := ns_split h2'
    rw [← List.append_assoc] at e2
    obtain ⟨rfl, _⟩ := List.append_inj' e2 rfl
    by_cases hr : r = []
    · left; simp [hr]
    · right
      rw [encP, if_neg (by simp [hr])]
      exact under_mk h1' hr h1
  · rintro (rfl | hu)
    · exact under_mk h1 (by simp) h4
    · by_cases hi : i = []
      · subst hi
        have := under_path hu
        exact absurd this (by decide)
      · rw [encP, if_neg hi] at hu
        obtain ⟨i', r', h1', h2', h3', e1, rfl⟩ := under_cases hu
        have e2 := flat_inj h1 h3' e1
        subst e2
        rw [List.append_assoc] at h4 ⊢
        exact under_mk h1' (by simp) h4
end Go.Proofs.YtkhbkhibjflgmaaDoor
