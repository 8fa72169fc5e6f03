/- Plain mathematics of lists in the order of their paths: lookups, insertion, uniqueness. No program in sight. Conditions: each theorem's own. -/
import Derived.Test.YtkhbkhibjflgmaaDoorTreeA
namespace Go.Proofs.YtkhbkhibjflgmaaDoor
open Go.Op
section
variable {α : Type} (f : α → Bs)
def OrdP (t : List α) : Prop := t.Pairwise fun a b => bytesLess (f a) (f b) = true
def atP : List α → Bs → Option α
  | [], _ => none
  | e :: r, q => if f e = q then some e else atP r q
/-- Put into an ordered list, in the place of what is there. -/
def putP : List α → α → List α
  | [], e => [e]
  | a :: r, e => if bytesLess (f a) (f e) = true then a :: putP r e else if f a = f e then e :: r else e :: a :: r
end
section
variable {α : Type} {f : α → Bs}
theorem atP_some {t : List α} {q : Bs} {e : α} (h : atP f t q = some e) : e ∈ t ∧ f e = q := by
  induction t with
  | nil => cases h
  | cons a r ih =>
    unfold atP at h
    split at h
    · next hq => injection h with h; subst h; exact ⟨by simp, hq⟩
    · have := ih h; exact ⟨by simp [this.1], this.2⟩
theorem atP_none {t : List α} {q : Bs} : atP f t q = none ↔ ∀ e ∈ t, f e ≠ q := by
  induction t with
  | nil => simp [atP]
  | cons a r ih =>
    unfold atP
    split
    · next h => simp [h]
    · next h => rw [ih]; simp [h]
theorem ordP_cons {a : α} {r : List α} : OrdP f (a :: r) ↔ (∀ e ∈ r, bytesLess (f a) (f e) = true) ∧ OrdP f r := by
  unfold OrdP; rw [List.pairwise_cons]
theorem atP_mem {t : List α} (h : OrdP f t) {e : α} (he : e ∈ t) : atP f t (f e) = some e := by
  induction t with
  | nil => cases he
  | cons a r ih =>
    unfold atP
    rw [ordP_cons] at h
    rcases List.mem_cons.1 he with rfl | hr
    · rw [if_pos rfl]
    · rw [if_neg (less_ne (h.1 e hr))]
      exact ih h.2 hr
theorem atP_iff {t : List α} (h : OrdP f t) {q : Bs} {e : α} : atP f t q = some e ↔ e ∈ t ∧ f e = q :=
  ⟨atP_some, fun ⟨h1, h2⟩ => h2 ▸ atP_mem h h1⟩
theorem atP_append (a b : List α) (q : Bs) : atP f (a ++ b) q = match atP f a q with | some e => some e | none => atP f b q := by
  induction a with
  | nil => rfl
  | cons x r ih =>
    rw [List.cons_append, atP, atP]
    split
    · rfl
    · exact ih
theorem ord_ext {a b : List α} (ha : OrdP f a) (hb : OrdP f b) (h : ∀ e, e ∈ a ↔ e ∈ b) : a = b := by
  induction a generalizing b with
  | nil =>
    cases b with
    | nil => rfl
    | cons y r => have := (h y).2 (by simp); cases this
  | cons x a ih =>
    cases b with
    | nil => have := (h x).1 (by simp); cases this
    | cons y b =>
      rw [ordP_cons] at ha hb
      have hxy : x = y := by
        rcases List.mem_cons.1 ((h x).1 (by simp)) with h1 | h1
        · exact h1
        · rcases List.mem_cons.1 ((h y).2 (by simp)) with h2 | h2
          · exact h2.symm
          · have := less_trans (ha.1 y h2) (hb.1 x h1)
            rw [less_irrefl] at this; cases this
      subst hxy
      rw [ih ha.2 hb.2 (fun e => ?_)]
      constructor
      · intro he
        rcases List.mem_cons.1 ((h e).1 (by simp [he])) with h1 | h1
        · subst h1; have := ha.1 e he; rw [less_irrefl] at this; cases this
        · exact h1
      · intro he
        rcases List.mem_cons.1 ((h e).2 (by simp [he])) with h1 | h1
        · subst h1; have := hb.1 e he; rw [less_irrefl] at this; cases this
        · exact h1
theorem ord_ext_at {a b : List α} (ha : OrdP f a) (hb : OrdP f b) (h : ∀ q, atP f a q = atP f b q) : a = b :=
  ord_ext ha hb fun e => ⟨fun he => by have := atP_mem ha he; rw [h] at this; exact (atP_some this).1, fun he => by have := atP_mem hb he; rw [← h] at this; exact (atP_some this).1⟩
theorem mem_putP {t : List α} (h : OrdP f t) {e x : α} : x ∈ putP f t e ↔ x = e ∨ (x ∈ t ∧ f x ≠ f e) := by
  induction t with
  | nil => simp [putP]
  | cons a r ih =>
    rw [ordP_cons] at h
    have ih := ih h.2
    unfold putP
    by_cases h1 : bytesLess (f a) (f e) = true
    · rw [if_pos h1, List.mem_cons, ih, List.mem_cons]
      have hne := less_ne h1
      constructor
      · rintro (rfl | rfl | ⟨h2, h3⟩)
        · exact .inr ⟨.inl rfl, hne⟩
        · exact .inl rfl
        · exact .inr ⟨.inr h2, h3⟩
      · rintro (rfl | ⟨rfl | h2, h3⟩)
        · exact .inr (.inl rfl)
        · exact .inl rfl
        · exact .inr (.inr ⟨h2, h3⟩)
    · rw [if_neg h1]
      by_cases h2 : f a = f e
      · rw [if_pos h2, List.mem_cons, List.mem_cons]
        constructor
        · rintro (rfl | h3)
          · exact .inl rfl
          · exact .inr ⟨.inr h3, fun hx => by have := h.1 x h3; rw [h2, hx, less_irrefl] at this; cases this⟩
        · rintro (rfl | ⟨rfl | h3, h4⟩)
          · exact .inl rfl
          · exact absurd h2 h4
          · exact .inr h3
      · rw [if_neg h2, List.mem_cons]
        have hl : bytesLess (f e) (f a) = true := by
          rcases less_total (f a) (f e) with h3 | h3 | h3
          · exact absurd h3 h1
          · exact absurd h3 h2
          · exact h3
        constructor
        · rintro (rfl | h3)
          · exact .inl rfl
          · refine .inr ⟨h3, fun hx => ?_⟩
            rcases List.mem_cons.1 h3 with rfl | h3
            · exact h2 hx
            · have := less_trans hl (h.1 x h3)
              rw [hx, less_irrefl] at this; cases this
        · rintro (rfl | ⟨h3, _⟩)
          · exact .inl rfl
          · exact .inr h3
theorem ord_putP {t : List α} (h : OrdP f t) (e : α) : OrdP f (putP f t e) := by
  induction t with
  | nil => simp [putP, OrdP]
  | cons a r ih =>
    have h0 := h
    rw [ordP_cons] at h
    unfold putP
    by_cases h1 : bytesLess (f a) (f e) = true
    · rw [if_pos h1, ordP_cons]
      refine ⟨fun x hx => ?_, ih h.2⟩
      rcases (mem_putP h.2).1 hx with rfl | ⟨hx, _⟩
      · exact h1
      · exact h.1 x hx
    · rw [if_neg h1]
      by_cases h2 : f a = f e
      · rw [if_pos h2, ordP_cons]
        exact ⟨fun x hx => h2 ▸ h.1 x hx, h.2⟩
      · rw [if_neg h2, ordP_cons]
        have hl : bytesLess (f e) (f a) = true := by
          rcases less_total (f a) (f e) with h3 | h3 | h3
          · exact absurd h3 h1
          · exact absurd h3 h2
          · exact h3
        refine ⟨fun x hx => ?_, h0⟩
        rcases List.mem_cons.1 hx with rfl | hx
        · exact hl
        · exact less_trans hl (h.1 x hx)
theorem opt_ext {a b : Option α} (h : ∀ e, a = some e ↔ b = some e) : a = b := by
  cases a with
  | none =>
    cases b with
    | none => rfl
    | some y => have := (h y).2 rfl; cases this
  | some x => exact ((h x).1 rfl).symm
theorem atP_putP {t : List α} (h : OrdP f t) (e : α) (q : Bs) : atP f (putP f t e) q = if f e = q then some e else atP f t q := by
  by_cases hq : f e = q
  · rw [if_pos hq, atP_iff (ord_putP h e), mem_putP h]
    exact ⟨.inl rfl, hq⟩
  · rw [if_neg hq]
    refine opt_ext fun x => ?_
    rw [atP_iff (ord_putP h e), mem_putP h, atP_iff h]
    constructor
    · rintro ⟨rfl | ⟨h1, _⟩, h2⟩
      · exact absurd h2 hq
      · exact ⟨h1, h2⟩
    · rintro ⟨h1, h2⟩
      exact ⟨.inr ⟨h1, by rw [h2]; exact fun h => hq h.symm⟩, h2⟩
theorem len_putP {t : List α} (h : OrdP f t) (e : α) : (putP f t e).length = if (atP f t (f e)).isSome = true then t.length else t.length + 1 := by
  induction t with
  | nil => simp [putP, atP]
  | cons a r ih =>
    rw [ordP_cons] at h
    have ih := ih h.2
    unfold putP atP
    by_cases h1 : bytesLess (f a) (f e) = true
    · rw [if_pos h1, if_neg (less_ne h1), List.length_cons, ih]
      split <;> simp
    · rw [if_neg h1]
      by_cases h2 : f a = f e
      · rw [if_pos h2, if_pos h2]; simp
      · rw [if_neg h2, if_neg h2]
        have hl : bytesLess (f e) (f a) = true := by
          rcases less_total (f a) (f e) with h3 | h3 | h3
          · exact absurd h3 h1
          · exact absurd h3 h2
          · exact h3
        have hn : atP f r (f e) = none := by
          rw [atP_none]
          intro x hx he
          have := less_trans hl (h.1 x hx)
          rw [he, less_irrefl] at this; cases this
        rw [hn]; simp
theorem len_putP_le {t : List α} (h : OrdP f t) (e : α) : (putP f t e).length ≤ t.length + 1 := by
  rw [len_putP h]; split <;> omega
theorem OrdP.filter {t : List α} (h : OrdP f t) (p : α → Bool) : OrdP f (t.filter p) := List.Pairwise.filter p h
theorem atP_filter {t : List α} (h : OrdP f t) (p : α → Bool) (q : Bs) {e : α} : atP f (t.filter p) q = some e ↔ atP f t q = some e ∧ p e = true := by
  rw [atP_iff (h.filter p), atP_iff h, List.mem_filter]
  constructor
  · rintro ⟨⟨h1, h2⟩, h3⟩; exact ⟨⟨h1, h3⟩, h2⟩
  · rintro ⟨⟨h1, h3⟩, h2⟩; exact ⟨⟨h1, h2⟩, h3⟩
theorem ord_nil : OrdP f ([] : List α) := List.Pairwise.nil
/-- Distinct paths. -/
def DisP (f : α → Bs) (u : List α) : Prop := u.Pairwise fun a b => f a ≠ f b
theorem OrdP.dis {t : List α} (h : OrdP f t) : DisP f t := List.Pairwise.imp (fun h => less_ne h) h
theorem ord_fold {u : List α} : ∀ {s : List α}, OrdP f s → OrdP f (u.foldl (putP f) s) := by
  induction u with
  | nil => intro s h; exact h
  | cons a r ih => intro s h; exact ih (ord_putP h a)
theorem mem_fold {u : List α} (hd : DisP f u) : ∀ {s : List α}, OrdP f s → ∀ x, x ∈ u.foldl (putP f) s ↔ x ∈ u ∨ (x ∈ s ∧ ∀ y ∈ u, f y ≠ f x) := by
  induction u with
  | nil => intro s _ x; simp
  | cons a r ih =>
    intro s h x
    unfold DisP at hd
    rw [List.pairwise_cons] at hd
    rw [List.foldl_cons, ih hd.2 (ord_putP h a), mem_putP h]
    constructor
    · rintro (h1 | ⟨rfl | ⟨h1, h2⟩, h3⟩)
      · exact .inl (by simp [h1])
      · exact .inl (by simp)
      · refine .inr ⟨h1, fun y hy => ?_⟩
        rcases List.mem_cons.1 hy with rfl | hy
        · exact fun h => h2 h.symm
        · exact h3 y hy
    · rintro (h1 | ⟨h1, h2⟩)
      · rcases List.mem_cons.1 h1 with rfl | h1
        · exact .inr ⟨.inl rfl, fun y hy h => hd.1 y hy h.symm⟩
        · exact .inl h1
      · exact .inr ⟨.inr ⟨h1, fun h => h2 a (by simp) h.symm⟩, fun y hy => h2 y (by simp [hy])⟩
/-- What is sorted, of distinct paths, is in order. -/
theorem ord_of_sorted {s u : List α} (hp : s.Perm u) (hd : DisP f u) (hs : s.Pairwise fun a b => bytesLess (f b) (f a) = false) : OrdP f s := by
  have hd' : DisP f s := (List.Perm.pairwise_iff (fun h => fun e => h e.symm) hp).2 hd
  refine List.Pairwise.imp₂ (fun a b h1 h2 => ?_) hs hd'
  rcases less_total (f a) (f b) with h3 | h3 | h3
  · exact h3
  · exact absurd h3 h2
  · rw [h1] at h3; cases h3
theorem fold_of_perm {s u : List α} (hp : s.Perm u) (hd : DisP f u) (hs : s.Pairwise fun a b => bytesLess (f b) (f a) = false) : s = u.foldl (putP f) [] := by
  refine ord_ext (ord_of_sorted hp hd hs) (ord_fold ord_nil) fun e => ?_
  rw [mem_fold hd ord_nil, hp.mem_iff]; simp
theorem atP_map_len {t : List α} (h : OrdP f t) : DisP f t := h.dis
/-- Putting one by one: the last one put at a path stands there. -/
theorem atP_fold {u : List α} (hd : DisP f u) {s : List α} (h : OrdP f s) (q : Bs) : atP f (u.foldl (putP f) s) q = match atP f u q with | some e => some e | none => atP f s q := by
  induction u generalizing s with
  | nil => rfl
  | cons a r ih =>
    unfold DisP at hd
    rw [List.pairwise_cons] at hd
    rw [List.foldl_cons, ih hd.2 (ord_putP h a), atP_putP h, atP]
    by_cases hq : f a = q
    · have hn : atP f r q = none := atP_none.2 fun e he h2 => hd.1 e he (hq.trans h2.symm)
      rw [if_pos hq, if_pos hq, hn]
    · rw [if_neg hq, if_neg hq]
end
theorem getL_at (t : List PE) (q : Bs) : getL t q = atP PE.p t q := by
  induction t with
  | nil => rfl
  | cons a r ih => rw [getL, atP, ih]
end Go.Proofs.YtkhbkhibjflgmaaDoor
