/- Plain mathematics of differences of trees. No program in sight. Conditions: each theorem's own. -/
import Derived.Test.YtkhbkhibjflgmaaDoorPlM
namespace Go.Proofs.YtkhbkhibjflgmaaDoor
open Go.Op
/-- The paths at which two ordered lists have not the same, as the program finds them. -/
def mergeL : List PE → List PE → List Bs
  | [], b => b.map PE.p
  | x :: a, [] => (x :: a).map PE.p
  | x :: a, y :: b => if bytesLess x.p y.p = true then x.p :: mergeL a (y :: b) else if bytesLess y.p x.p = true then y.p :: mergeL (x :: a) b else if x = y then mergeL a b else x.p :: mergeL a b
termination_by a b => a.length + b.length
/-- As the reference finds them. -/
def turnedL (a b : List PE) : List Bs := ((b.foldl (putP PE.p) a).filter fun e => decide (atP PE.p a e.p ≠ atP PE.p b e.p)).map PE.p
theorem at_lt {α : Type} {f : α → Bs} {t : List α} {s : Bs} (h : ∀ e ∈ t, bytesLess s (f e) = true) : atP f t s = none :=
  atP_none.2 fun e he h2 => by have := h e he; rw [h2, less_irrefl] at this; cases this
theorem at_cons_lt {α : Type} {f : α → Bs} {y : α} {b : List α} {s : Bs} (hb : OrdP f (y :: b)) (h : bytesLess s (f y) = true) : atP f (y :: b) s = none := by
  rw [ordP_cons] at hb
  refine at_lt fun e he => ?_
  rcases List.mem_cons.1 he with rfl | he
  · exact h
  · exact less_trans h (hb.1 e he)
theorem mem_merge : ∀ {a b : List PE}, OrdP PE.p a → OrdP PE.p b → ∀ s, s ∈ mergeL a b ↔ atP PE.p a s ≠ atP PE.p b s := by
  intro a b
  induction a, b using mergeL.induct with
  | case1 b =>
    intro _ hb s
    rw [mergeL, List.mem_map]
    show _ ↔ none ≠ _
    constructor
    · rintro ⟨e, he, rfl⟩
      rw [atP_mem hb he]; simp
    · intro h
      cases hc : atP PE.p b s with
      | none => rw [hc] at h; exact absurd rfl h
      | some e => exact ⟨e, atP_some hc⟩
  | case2 x a =>
    intro ha _ s
    rw [mergeL, List.mem_map]
    show _ ↔ _ ≠ none
    constructor
    · rintro ⟨e, he, rfl⟩
      rw [atP_mem ha he]; simp
    · intro h
      cases hc : atP PE.p (x :: a) s with
      | none => exact absurd hc h
      | some e => exact ⟨e, atP_some hc⟩
  | case3 x a y b h1 ih =>
    intro ha hb s
    rw [mergeL, if_pos h1, List.mem_cons, ih (ordP_cons.1 ha).2 hb]
    by_cases hs : x.p = s
    · have e1 : atP PE.p (x :: a) s = some x := by rw [atP, if_pos hs]
      have e2 : atP PE.p (y :: b) s = none := at_cons_lt hb (hs ▸ h1)
      rw [e1, e2]; simp [hs]
    · have e1 : atP PE.p (x :: a) s = atP PE.p a s := by rw [atP, if_neg hs]
      rw [e1]
      constructor
      · rintro (h | h)
        · exact absurd h.symm hs
        · exact h
      · exact .inr
  | case4 x a y b h1 h2 ih =>
    intro ha hb s
    rw [mergeL, if_neg h1, if_pos h2, List.mem_cons, ih ha (ordP_cons.1 hb).2]
    by_cases hs : y.p = s
    · have e1 : atP PE.p (y :: b) s = some y := by rw [atP, if_pos hs]
      have e2 : atP PE.p (x :: a) s = none := at_cons_lt ha (hs ▸ h2)
      rw [e1, e2]; simp [hs]
    · have e1 : atP PE.p (y :: b) s = atP PE.p b s := by rw [atP, if_neg hs]
      rw [e1]
      constructor
      · rintro (h | h)
        · exact absurd h.symm hs
        · exact h
      · exact .inr
  | case5 a x b h1 h2 ih =>
    intro ha hb s
    rw [mergeL, if_neg h1, if_neg h2, if_pos rfl, ih (ordP_cons.1 ha).2 (ordP_cons.1 hb).2, atP, atP]
    by_cases hs : x.p = s
    · have e1 : atP PE.p a s = none := at_lt fun e he => hs ▸ (ordP_cons.1 ha).1 e he
      have e2 : atP PE.p b s = none := at_lt fun e he => hs ▸ (ordP_cons.1 hb).1 e he
      rw [if_pos hs, if_pos hs, e1, e2]; simp
    · rw [if_neg hs, if_neg hs]
  | case6 x a y b h1 h2 h3 ih =>
    intro ha hb s
    have he : x.p = y.p := by
      rcases less_total x.p y.p with h | h | h
      · exact absurd h h1
      · exact h
      · exact absurd h h2
    rw [mergeL, if_neg h1, if_neg h2, if_neg h3, List.mem_cons, ih (ordP_cons.1 ha).2 (ordP_cons.1 hb).2, atP, atP]
    by_cases hs : x.p = s
    · rw [if_pos hs, if_pos (he ▸ hs)]
      simp [hs, h3]
    · rw [if_neg hs, if_neg (he ▸ hs)]
      constructor
      · rintro (h | h)
        · exact absurd h.symm hs
        · exact h
      · exact .inr
theorem merge_from {a b : List PE} (ha : OrdP PE.p a) (hb : OrdP PE.p b) {s : Bs} (h : s ∈ mergeL a b) : (∃ e ∈ a, e.p = s) ∨ ∃ e ∈ b, e.p = s := by
  rw [mem_merge ha hb] at h
  cases h1 : atP PE.p a s with
  | some e => exact .inl ⟨e, atP_some h1⟩
  | none =>
    cases h2 : atP PE.p b s with
    | some e => exact .inr ⟨e, atP_some h2⟩
    | none => rw [h1, h2] at h; exact absurd rfl h
theorem ord_map {t : List PE} (h : OrdP PE.p t) : OrdP id (t.map PE.p) := by
  unfold OrdP at *
  rw [List.pairwise_map]; exact h
theorem ord_merge : ∀ {a b : List PE}, OrdP PE.p a → OrdP PE.p b → OrdP id (mergeL a b) := by
  intro a b
  induction a, b using mergeL.induct with
  | case1 b => intro _ hb; rw [mergeL]; exact ord_map hb
  | case2 x a => intro ha _; rw [mergeL]; exact ord_map ha
  | case3 x a y b h1 ih =>
    intro ha hb
    rw [mergeL, if_pos h1, ordP_cons]
    refine ⟨fun s hs => ?_, ih (ordP_cons.1 ha).2 hb⟩
    rcases merge_from (ordP_cons.1 ha).2 hb hs with ⟨e, he, rfl⟩ | ⟨e, he, rfl⟩
    · exact (ordP_cons.1 ha).1 e he
    · rcases List.mem_cons.1 he with rfl | he
      · exact h1
      · exact less_trans h1 ((ordP_cons.1 hb).1 e he)
  | case4 x a y b h1 h2 ih =>
    intro ha hb
    rw [mergeL, if_neg h1, if_pos h2, ordP_cons]
    refine ⟨fun s hs => ?_, ih ha (ordP_cons.1 hb).2⟩
    rcases merge_from ha (ordP_cons.1 hb).2 hs with ⟨e, he, rfl⟩ | ⟨e, he, rfl⟩
    · rcases List.mem_cons.1 he with rfl | he
      · exact h2
      · exact less_trans h2 ((ordP_cons.1 ha).1 e he)
    · exact (ordP_cons.1 hb).1 e he
  | case5 a x b h1 h2 ih =>
    intro ha hb
    rw [mergeL, if_neg h1, if_neg h2, if_pos rfl]
    exact ih (ordP_cons.1 ha).2 (ordP_cons.1 hb).2
  | case6 x a y b h1 h2 h3 ih =>
    intro ha hb
    have he : x.p = y.p := by
      rcases less_total x.p y.p with h | h | h
      · exact absurd h h1
      · exact h
      · exact absurd h h2
    rw [mergeL, if_neg h1, if_neg h2, if_neg h3, ordP_cons]
    refine ⟨fun s hs => ?_, ih (ordP_cons.1 ha).2 (ordP_cons.1 hb).2⟩
    rcases merge_from (ordP_cons.1 ha).2 (ordP_cons.1 hb).2 hs with ⟨e, h4, rfl⟩ | ⟨e, h4, rfl⟩
    · exact (ordP_cons.1 ha).1 e h4
    · show bytesLess x.p e.p = true
      rw [he]; exact (ordP_cons.1 hb).1 e h4
theorem mem_turned {a b : List PE} (ha : OrdP PE.p a) (hb : OrdP PE.p b) (s : Bs) : s ∈ turnedL a b ↔ atP PE.p a s ≠ atP PE.p b s := by
  unfold turnedL
  rw [List.mem_map]
  constructor
  · rintro ⟨e, he, rfl⟩
    simpa using (List.mem_filter.1 he).2
  · intro h
    have h1 := atP_fold hb.dis ha s
    have h2 : ∃ e, atP PE.p (b.foldl (putP PE.p) a) s = some e := by
      rw [h1]
      cases hc : atP PE.p b s with
      | some e => exact ⟨e, rfl⟩
      | none =>
        cases hd : atP PE.p a s with
        | some e => exact ⟨e, rfl⟩
        | none => rw [hc, hd] at h; exact absurd rfl h
    obtain ⟨e, he⟩ := h2
    obtain ⟨h3, h4⟩ := atP_some he
    exact ⟨e, List.mem_filter.2 ⟨h3, by rw [h4]; simpa using h⟩, h4⟩
theorem ord_turned {a b : List PE} (ha : OrdP PE.p a) : OrdP id (turnedL a b) := ord_map ((ord_fold ha).filter _)
theorem merge_turned {a b : List PE} (ha : OrdP PE.p a) (hb : OrdP PE.p b) : mergeL a b = turnedL a b :=
  ord_ext (ord_merge ha hb) (ord_turned ha) fun s => by rw [mem_merge ha hb, mem_turned ha hb]
theorem turned_comm {a b : List PE} (ha : OrdP PE.p a) (hb : OrdP PE.p b) : turnedL a b = turnedL b a :=
  ord_ext (ord_turned ha) (ord_turned hb) fun s => by rw [mem_turned ha hb, mem_turned hb ha]; exact ⟨Ne.symm, Ne.symm⟩
theorem turned_self {a : List PE} (ha : OrdP PE.p a) : turnedL a a = [] := by
  cases h : turnedL a a with
  | nil => rfl
  | cons s r => have := (mem_turned ha ha s).1 (by simp [h]); exact absurd rfl this
theorem turned_nil {a b : List PE} (ha : OrdP PE.p a) (hb : OrdP PE.p b) : turnedL a b = [] ↔ a = b := by
  constructor
  · intro h
    refine ord_ext_at ha hb fun q => ?_
    have := (mem_turned ha hb q)
    rw [h] at this
    exact Classical.byContradiction fun h2 => by have := this.2 h2; cases this
  · rintro rfl; exact turned_self ha
theorem turned_len {a b : List PE} : (turnedL a b).length ≤ a.length + b.length := by
  unfold turnedL
  rw [List.length_map]
  refine Nat.le_trans (List.length_filter_le _ _) ?_
  induction b generalizing a with
  | nil => simp
  | cons y b ih =>
    rw [List.foldl_cons]
    refine Nat.le_trans (ih (a := putP PE.p a y)) ?_
    have : (putP PE.p a y).length ≤ a.length + 1 := by
      clear ih
      induction a with
      | nil => simp [putP]
      | cons x a ih =>
        unfold putP
        split
        · simp only [List.length_cons]; omega
        · split <;> simp
    simp only [List.length_cons]; omega
end Go.Proofs.YtkhbkhibjflgmaaDoor
