/- Plain mathematics of trees: lookups, right trees. No program in sight. Conditions: each theorem's own. -/
import Derived.Test.YtkhbkhibjflgmaaDoorPlainC
namespace Go.Proofs.YtkhbkhibjflgmaaDoor
open Go.Op
/-- An entry, plainly. -/
structure PE where
  p : Bs
  d : Bool
  x : Bs
deriving DecidableEq
/-- What is at a path. -/
def getL : List PE → Bs → Option PE
  | [], _ => none
  | e :: r, q => if e.p = q then some e else getL r q
def upCodeL (t : List PE) (q : Bs) : Nat :=
  if upL q = [47] then 0 else match getL t (upL q) with
    | none => 2
    | some e => if e.d then 0 else 3
def entOkL (e : PE) : Bool := pathOkL e.p && dataOkL e.x && (!e.d || e.x == [])
def Ord (t : List PE) : Prop := t.Pairwise fun a b => bytesLess a.p b.p = true
/-- A right tree. -/
structure TOk (t : List PE) : Prop where
  most : t.length ≤ 16
  ent : ∀ e ∈ t, entOkL e = true
  ord : Ord t
  up : ∀ e ∈ t, upCodeL t e.p = 0
theorem getL_some {t : List PE} {q : Bs} {e : PE} (h : getL t q = some e) : e ∈ t ∧ e.p = q := by
  induction t with
  | nil => cases h
  | cons a r ih =>
    unfold getL at h
    split at h
    · next hq => injection h with h; subst h; exact ⟨by simp, hq⟩
    · have := ih h; exact ⟨by simp [this.1], this.2⟩
theorem getL_none {t : List PE} {q : Bs} : getL t q = none ↔ ∀ e ∈ t, e.p ≠ q := by
  induction t with
  | nil => simp [getL]
  | cons a r ih =>
    unfold getL
    split
    · next h => simp [h]
    · next h => rw [ih]; simp [h]
theorem getL_mem {t : List PE} (h : Ord t) {e : PE} (he : e ∈ t) : getL t e.p = some e := by
  induction t with
  | nil => cases he
  | cons a r ih =>
    unfold getL
    rw [Ord, List.pairwise_cons] at h
    rcases List.mem_cons.1 he with rfl | hr
    · rw [if_pos rfl]
    · have := h.1 e hr
      rw [if_neg (less_ne this)]
      exact ih h.2 hr
theorem getL_append (a b : List PE) (q : Bs) : getL (a ++ b) q = match getL a q with | some e => some e | none => getL b q := by
  induction a with
  | nil => rfl
  | cons x r ih =>
    rw [List.cons_append, getL, getL]
    split
    · rfl
    · exact ih
theorem up_less {p : Bs} (h : pathOkL p = true) (hr : upL p ≠ [47]) : bytesLess (upL p) p = true := by
  obtain ⟨i, n, h1, _, _, h4, rfl, h6, _⟩ := path_split h
  rw [h6] at hr ⊢
  have hi : i ≠ [] := by rintro rfl; exact hr rfl
  rw [encP, if_neg hi, flat_append]
  exact less_append _ _ _
theorem up_path {p : Bs} (h : pathOkL p = true) (hr : upL p ≠ [47]) : pathOkL (upL p) = true := by
  obtain ⟨i, n, h1, _, _, h4, rfl, h6, _⟩ := path_split h
  rw [h6] at hr ⊢
  have hi : i ≠ [] := by rintro rfl; exact hr rfl
  rw [encP, if_neg hi]
  exact pathOk_flat h1 hi
/-- What is asked of the entry at place j, as the program asks. -/
def AskI (t : List PE) (j : Nat) (e : PE) : Prop := entOkL e = true ∧ (∀ f, 0 < j → t[j - 1]? = some f → bytesLess f.p e.p = true) ∧ upCodeL t e.p = 0
/-- As the reference asks: of those ahead. -/
def AskS (t : List PE) (j : Nat) (e : PE) : Prop := entOkL e = true ∧ (∀ f, 0 < j → t[j - 1]? = some f → bytesLess f.p e.p = true) ∧ upCodeL (t.take j) e.p = 0
theorem ord_of (t : List PE) (h : ∀ (j : Nat) (e f : PE), t[j]? = some e → 0 < j → t[j - 1]? = some f → bytesLess f.p e.p = true) : Ord t := by
  have key : ∀ (d i : Nat) (f e : PE), t[i]? = some f → t[i + d + 1]? = some e → bytesLess f.p e.p = true := by
    intro d
    induction d with
    | zero => intro i f e hf he; exact h (i + 1) e f he (by omega) (by simpa using hf)
    | succ d ih =>
      intro i f e hf he
      have hl : i + (d + 1) + 1 < t.length := (List.getElem?_eq_some_iff.1 he).1
      have hg : t[i + d + 1]? = some (t[i + d + 1]'(by omega)) := List.getElem?_eq_getElem (by omega)
      have h1 := ih i f _ hf hg
      have h2 := h (i + (d + 1) + 1) e (t[i + d + 1]'(by omega)) he (by omega) (by rw [show i + (d + 1) + 1 - 1 = i + d + 1 by omega]; exact hg)
      exact less_trans h1 h2
  rw [Ord, List.pairwise_iff_getElem]
  intro i j hi hj hij
  obtain ⟨d, rfl⟩ : ∃ d, j = i + d + 1 := ⟨j - i - 1, by omega⟩
  exact key d i _ _ (List.getElem?_eq_getElem hi) (List.getElem?_eq_getElem hj)
theorem ord_at {t : List PE} (h : Ord t) {i j : Nat} {f e : PE} (hij : i < j) (hf : t[i]? = some f) (he : t[j]? = some e) : bytesLess f.p e.p = true := by
  obtain ⟨h1, h2⟩ := List.getElem?_eq_some_iff.1 hf
  obtain ⟨h3, h4⟩ := List.getElem?_eq_some_iff.1 he
  have := (List.pairwise_iff_getElem.1 h) i j h1 h3 hij
  rw [h2, h4] at this
  exact this
theorem tok_iff (t : List PE) : TOk t ↔ t.length ≤ 16 ∧ ∀ (j : Nat) (e : PE), t[j]? = some e → AskI t j e := by
  constructor
  · intro h
    refine ⟨h.most, fun j e he => ⟨h.ent e (List.mem_of_getElem? he), fun f hj hf => ord_at h.ord (by omega) hf he, h.up e (List.mem_of_getElem? he)⟩⟩
  · rintro ⟨h1, h2⟩
    refine ⟨h1, fun e he => ?_, ord_of t (fun j e f he hj hf => (h2 j e he).2.1 f hj hf), fun e he => ?_⟩
    · obtain ⟨j, hj⟩ := List.getElem?_of_mem he
      exact (h2 j e hj).1
    · obtain ⟨j, hj⟩ := List.getElem?_of_mem he
      exact (h2 j e hj).2.2
/-- In an ordered list the parent of what stands at place j stands ahead of it. -/
theorem up_take {t : List PE} (h : Ord t) {j : Nat} {e : PE} (he : t[j]? = some e) (hp : pathOkL e.p = true) : upCodeL (t.take j) e.p = upCodeL t e.p := by
  unfold upCodeL
  by_cases hr : upL e.p = [47]
  · rw [if_pos hr, if_pos hr]
  · rw [if_neg hr, if_neg hr]
    have hg : getL t (upL e.p) = getL (t.take j) (upL e.p) := by
      conv => lhs; rw [← List.take_append_drop j t, getL_append]
      cases hc : getL (t.take j) (upL e.p) with
      | some f => rfl
      | none =>
        rw [getL_none]
        intro f hf hfe
        obtain ⟨i, hi⟩ := List.getElem?_of_mem hf
        rw [List.getElem?_drop] at hi
        have hl := up_less hp hr
        rw [← hfe] at hl
        by_cases h0 : i = 0
        · subst h0
          rw [Nat.add_zero, he] at hi
          injection hi with hi
          subst hi
          rw [less_irrefl] at hl; cases hl
        · have := ord_at h (by omega) he hi
          have := less_trans hl this
          rw [less_irrefl] at this; cases this
    rw [hg]
theorem tok_iffS (t : List PE) : TOk t ↔ t.length ≤ 16 ∧ ∀ (j : Nat) (e : PE), t[j]? = some e → AskS t j e := by
  rw [tok_iff]
  constructor
  · rintro ⟨h1, h2⟩
    have ho := ord_of t (fun j e f he hj hf => (h2 j e he).2.1 f hj hf)
    refine ⟨h1, fun j e he => ?_⟩
    obtain ⟨a, b, c⟩ := h2 j e he
    refine ⟨a, b, ?_⟩
    rw [up_take ho he (by simp [entOkL] at a; exact a.1.1)]
    exact c
  · rintro ⟨h1, h2⟩
    have ho := ord_of t (fun j e f he hj hf => (h2 j e he).2.1 f hj hf)
    refine ⟨h1, fun j e he => ?_⟩
    obtain ⟨a, b, c⟩ := h2 j e he
    refine ⟨a, b, ?_⟩
    rw [← up_take ho he (by simp [entOkL] at a; exact a.1.1)]
    exact c
end Go.Proofs.YtkhbkhibjflgmaaDoor
