/- Plain laws of paths: the order of bytes, moves. No program in sight. Conditions: each theorem's own. -/
import Derived.Test.YtkhbkhibjflgmaaDoorPlainB
namespace Go.Proofs.YtkhbkhibjflgmaaDoor
open Go.Op
theorem less_nil (a : Bs) : bytesLess a [] = false := by cases a <;> rfl
theorem less_cons (a b : UInt8) (x y : Bs) : bytesLess (a :: x) (b :: y) = (decide (a < b) || (a == b && bytesLess x y)) := rfl
theorem u8_lt_irrefl (a : UInt8) : ¬ a < a := by rw [UInt8.lt_iff_toNat_lt]; omega
theorem less_irrefl (a : Bs) : bytesLess a a = false := by
  induction a with
  | nil => rfl
  | cons x a ih => rw [less_cons, ih]; simp
theorem less_trans {a b c : Bs} (h : bytesLess a b = true) (h' : bytesLess b c = true) : bytesLess a c = true := by
  induction a generalizing b c with
  | nil =>
    cases c with
    | nil => rw [less_nil] at h'; cases h'
    | cons _ _ => rfl
  | cons x a ih =>
    cases b with
    | nil => rw [less_nil] at h; cases h
    | cons y b =>
      cases c with
      | nil => rw [less_nil] at h'; cases h'
      | cons z c =>
        simp only [less_cons, Bool.or_eq_true, decide_eq_true_eq, Bool.and_eq_true, beq_iff_eq, UInt8.lt_iff_toNat_lt] at h h' ⊢
        rcases h with h | ⟨rfl, h⟩ <;> rcases h' with h' | ⟨rfl, h'⟩
        · left; omega
        · left; exact h
        · left; exact h'
        · right; exact ⟨rfl, ih h h'⟩
theorem less_total (a b : Bs) : bytesLess a b = true ∨ a = b ∨ bytesLess b a = true := by
  induction a generalizing b with
  | nil =>
    cases b with
    | nil => exact .inr (.inl rfl)
    | cons _ _ => exact .inl rfl
  | cons x a ih =>
    cases b with
    | nil => exact .inr (.inr rfl)
    | cons y b =>
      simp only [less_cons, Bool.or_eq_true, decide_eq_true_eq, Bool.and_eq_true, beq_iff_eq, UInt8.lt_iff_toNat_lt, List.cons.injEq]
      by_cases hlt : x.toNat < y.toNat
      · exact .inl (.inl hlt)
      · by_cases hgt : y.toNat < x.toNat
        · exact .inr (.inr (.inl hgt))
        · have : x = y := UInt8.toNat_inj.1 (by omega)
          subst this
          rcases ih b with h | h | h
          · exact .inl (.inr ⟨rfl, h⟩)
          · exact .inr (.inl ⟨rfl, h⟩)
          · exact .inr (.inr (.inr ⟨rfl, h⟩))
theorem less_asymm {a b : Bs} (h : bytesLess a b = true) : bytesLess b a = false := by
  cases h' : bytesLess b a with
  | false => rfl
  | true => have := less_trans h h'; rw [less_irrefl] at this; cases this
theorem less_ne {a b : Bs} (h : bytesLess a b = true) : a ≠ b := by rintro rfl; rw [less_irrefl] at h; cases h
theorem less_append (b : Bs) (x : UInt8) (y : Bs) : bytesLess b (b ++ x :: y) = true := by
  induction b with
  | nil => rfl
  | cons z b ih => rw [List.cons_append, less_cons, ih]; simp
theorem less_between {b c m : Bs} (h : bytesLess b c = true) (h' : bytesLess c (b ++ m) = true) : ∃ y, c = b ++ y ∧ y ≠ [] ∧ bytesLess y m = true := by
  induction b generalizing c with
  | nil =>
    refine ⟨c, rfl, ?_, h'⟩
    rintro rfl; cases h
  | cons x b ih =>
    cases c with
    | nil => rw [less_nil] at h; cases h
    | cons z c =>
      rw [List.cons_append] at h'
      simp only [less_cons, Bool.or_eq_true, decide_eq_true_eq, Bool.and_eq_true, beq_iff_eq, UInt8.lt_iff_toNat_lt] at h h'
      rcases h with h | ⟨rfl, h⟩
      · rcases h' with h' | ⟨rfl, h'⟩ <;> omega
      · rcases h' with h' | ⟨_, h'⟩
        · omega
        · obtain ⟨y, rfl, hy⟩ := ih h h'
          exact ⟨y, rfl, hy⟩
theorem flat_chars {ns : List Bs} (h : ∀ n ∈ ns, nameOkL n = true) : ∀ x ∈ flat ns, x = 47 ∨ isLo x = true := by
  induction ns with
  | nil => intro x hx; cases hx
  | cons n r ih =>
    intro x hx
    simp only [flat, List.mem_cons, List.mem_append] at hx
    rcases hx with rfl | hx | hx
    · exact .inl rfl
    · exact .inr (List.all_eq_true.1 ((nameOkL_iff n).1 (h n (by simp))).2.2 x hx)
    · exact ih (fun m hm => h m (by simp [hm])) x hx
theorem under_pre {a b : Bs} (h : underL a b = true) (hb : pathOkL b = true) : ∃ x, a = b ++ 47 :: x := by
  rw [under_eq] at h
  simp only [Bool.and_eq_true, l1UnderL, Bool.or_eq_true, beq_iff_eq] at h
  rcases h.2 with h2 | h2
  · exact absurd h2 (path_ne_root hb)
  · obtain ⟨x, hx⟩ := List.isPrefixOf_iff_prefix.1 h2
    exact ⟨x, by rw [← hx]; simp⟩
theorem under_of_pre {b x : Bs} (hb : pathOkL b = true) (ha : pathOkL (b ++ 47 :: x) = true) : underL (b ++ 47 :: x) b = true := by
  rw [under_eq, ha, hb]
  simp only [Bool.or_true, Bool.true_and, l1UnderL, Bool.or_eq_true, beq_iff_eq]
  exact .inr (List.isPrefixOf_iff_prefix.2 ⟨x, by simp⟩)
theorem under_less {a b : Bs} (h : underL a b = true) (hb : pathOkL b = true) : bytesLess b a = true := by
  obtain ⟨x, rfl⟩ := under_pre h hb
  exact less_append b 47 x
theorem between_under {a b c : Bs} (h : underL a b = true) (hb : pathOkL b = true) (hc : pathOkL c = true) (h1 : bytesLess b c = true) (h2 : bytesLess c a = true) : underL c b = true := by
  obtain ⟨x, rfl⟩ := under_pre h hb
  obtain ⟨y, rfl, hy, hl⟩ := less_between h1 h2
  cases y with
  | nil => exact absurd rfl hy
  | cons z y =>
    have hz : z = 47 := by
      obtain ⟨ns, hn, _, e⟩ := (pathOk_iff _).1 hc
      have := flat_chars hn.2 z (by rw [← e]; simp)
      rcases this with h | h
      · exact h
      · rw [less_cons] at hl
        simp only [Bool.or_eq_true, decide_eq_true_eq, Bool.and_eq_true, beq_iff_eq, UInt8.lt_iff_toNat_lt] at hl
        simp [isLo] at h
        rcases hl with hl | hl
        · have e47 : (47 : UInt8).toNat = 47 := rfl
          omega
        · exact hl.1
    subst hz
    exact under_of_pre hb hc
/-- A move at the names. -/
theorem move_cases {s f t : Bs} (h : pathOkL s = true) (h' : pathOkL f = true) (h'' : pathOkL t = true) :
    ∃ S F T, NS S ∧ S ≠ [] ∧ NS F ∧ F ≠ [] ∧ NS T ∧ T ≠ [] ∧ s = flat S ∧ f = flat F ∧ t = flat T := by
  obtain ⟨S, h1, h2, rfl⟩ := (pathOk_iff s).1 h
  obtain ⟨F, h3, h4, rfl⟩ := (pathOk_iff f).1 h'
  obtain ⟨T, h5, h6, rfl⟩ := (pathOk_iff t).1 h''
  exact ⟨S, F, T, h1, h2, h3, h4, h5, h6, rfl, rfl, rfl⟩
theorem from_iff {S F : List Bs} (hS : NS S) (hSn : S ≠ []) (hF : NS F) (hFn : F ≠ []) : (flat S = flat F ∨ underL (flat S) (flat F) = true) ↔ F <+: S := by
  rw [under_flat hS hSn hF hFn]
  constructor
  · rintro (h | ⟨r, _, rfl⟩)
    · rw [flat_inj hS hF h]; exact ⟨[], by simp⟩
    · exact ⟨r, rfl⟩
  · rintro ⟨r, rfl⟩
    by_cases hr : r = []
    · left; simp [hr]
    · exact .inr ⟨r, hr, rfl⟩
theorem NS.of_path {ns : List Bs} (h : pathOkL (flat ns) = true) (hn : ∀ n ∈ ns, nameOkL n = true) : NS ns := by
  obtain ⟨ms, h1, h2, e⟩ := (pathOk_iff _).1 h
  have : ns = ms := by
    cases ns with
    | nil => exact absurd h (by decide)
    | cons n r =>
      rw [← cut_flat h1 h2, ← e]
      exact (cutL_flat n r (fun m hm => name_no47 (hn m hm))).symm
  exact this ▸ h1
/-- What is moved: by the same names. -/
theorem moved_app {F T r : List Bs} (hs : NS (F ++ r)) (hF : NS F) (hFn : F ≠ []) : moved (flat (F ++ r)) (flat F) (flat T) = flat (T ++ r) := by
  rw [moved_flat hs (by simp [hFn]) hF hFn, if_pos ⟨r, rfl⟩]; simp
theorem moveOk_app {F T r : List Bs} (hs : NS (F ++ r)) (hF : NS F) (hFn : F ≠ []) (hT : NS T) (hTn : T ≠ []) : moveOkL (flat (F ++ r)) (flat F) (flat T) = true ↔ NS (T ++ r) := by
  have h1 := pathOk_flat hs (by simp [hFn])
  have h2 := pathOk_flat hF hFn
  have h3 := pathOk_flat hT hTn
  simp only [moveOkL, h1, h2, h3, moved_app hs hF hFn, Bool.true_and]
  constructor
  · intro h
    refine NS.of_path h (fun n hn => ?_)
    rcases List.mem_append.1 hn with h | h
    · exact hT.2 n h
    · exact hs.of_append.2.2 n h
  · intro h; exact pathOk_flat h (by simp [hTn])
theorem law_move {s f t : Bs} (h : moveOkL s f t = true) (hm : s = f ∨ underL s f = true) :
    moveOkL (moveL s f t) t f = true ∧ moveL (moveL s f t) t f = s ∧ (moveL s f t = t ↔ s = f) ∧ (s ≠ f → underL (moveL s f t) t = true ∧ nameL (moveL s f t) = nameL s) := by
  have hp : (pathOkL s = true ∧ pathOkL f = true) ∧ pathOkL t = true := by
    have h := h
    simp only [moveOkL, Bool.and_eq_true] at h
    exact h.1
  obtain ⟨S, F, T, h1, h2, h3, h4, h5, h6, rfl, rfl, rfl⟩ := move_cases hp.1.1 hp.1.2 hp.2
  obtain ⟨r, rfl⟩ := (from_iff h1 h2 h3 h4).1 hm
  have hN := (moveOk_app h1 h3 h4 h5 h6).1 h
  have e : moveL (flat (F ++ r)) (flat F) (flat T) = flat (T ++ r) := by rw [moveL, if_pos h, moved_app h1 h3 h4]
  have hb : moveOkL (flat (T ++ r)) (flat T) (flat F) = true := (moveOk_app hN h5 h6 h3 h4).2 h1
  rw [e]
  refine ⟨hb, by rw [moveL, if_pos hb, moved_app hN h5 h6], ?_, ?_⟩
  · constructor
    · intro he
      have := congrArg List.length (flat_inj hN h5 he)
      simp at this
      simp [this]
    · intro he
      have := congrArg List.length (flat_inj h1 h3 he)
      simp at this
      simp [this]
  · intro hne
    have hr : r ≠ [] := by rintro rfl; exact hne (by simp)
    refine ⟨(under_flat hN (by simp [h6]) h5 h6).2 ⟨r, hr, rfl⟩, ?_⟩
    obtain ⟨i, n, rfl⟩ := ns_split hr
    rw [name_flat hN (by simp), name_flat h1 (by simp)]
    simp [List.getLast?_append]
theorem move_stay {s f t : Bs} (h : moveOkL s f t = true) (hm : ¬ (s = f ∨ underL s f = true)) : moveL s f t = s := by
  rw [moveL, if_pos h, moved, if_neg hm]
theorem law_via {s f t v : Bs} (h : moveOkL s f v = true) (ht : pathOkL t = true) (hm : s = f ∨ underL s f = true) :
    moveOkL (moveL s f v) v t = moveOkL s f t ∧ moveL (moveL s f v) v t = moveL s f t := by
  have hp : (pathOkL s = true ∧ pathOkL f = true) ∧ pathOkL v = true := by
    have h := h
    simp only [moveOkL, Bool.and_eq_true] at h
    exact h.1
  obtain ⟨S, F, V, h1, h2, h3, h4, h5, h6, rfl, rfl, rfl⟩ := move_cases hp.1.1 hp.1.2 hp.2
  obtain ⟨T, h7, h8, rfl⟩ := (pathOk_iff t).1 ht
  obtain ⟨r, rfl⟩ := (from_iff h1 h2 h3 h4).1 hm
  have hN := (moveOk_app h1 h3 h4 h5 h6).1 h
  have e : moveL (flat (F ++ r)) (flat F) (flat V) = flat (V ++ r) := by rw [moveL, if_pos h, moved_app h1 h3 h4]
  have e2 : moveOkL (flat (V ++ r)) (flat V) (flat T) = moveOkL (flat (F ++ r)) (flat F) (flat T) := by
    rw [Bool.eq_iff_iff, moveOk_app hN h5 h6 h7 h8, moveOk_app h1 h3 h4 h7 h8]
  rw [e]
  refine ⟨e2, ?_⟩
  unfold moveL
  rw [e2, moved_app hN h5 h6, moved_app h1 h3 h4]
theorem via_bad {s f t : Bs} (ht : pathOkL t = false) : moveOkL s f t = false := by simp [moveOkL, ht]
end Go.Proofs.YtkhbkhibjflgmaaDoor
