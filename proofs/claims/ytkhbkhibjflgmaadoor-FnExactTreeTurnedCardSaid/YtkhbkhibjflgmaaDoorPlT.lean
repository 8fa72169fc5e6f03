/- Plain mathematics of what is done to a tree: codes, results. No program in sight. Conditions: each theorem's own. -/
import Derived.Test.YtkhbkhibjflgmaaDoorPlS
namespace Go.Proofs.YtkhbkhibjflgmaaDoor
open Go.Op
theorem up_len {p : Bs} (h : pathOkL p = true) (hr : upL p ≠ [47]) : (upL p).length < p.length := by
  obtain ⟨i, n, h1, _, _, h4, rfl, h6, _⟩ := path_split h
  rw [h6] at hr ⊢
  have hi : i ≠ [] := by rintro rfl; exact hr rfl
  rw [encP, if_neg hi, flat_append]
  simp [flat]
theorem up_under {p : Bs} (h : pathOkL p = true) : underL p (upL p) = true := (law_path h).2.2.1
theorem up_ne {p : Bs} (h : pathOkL p = true) : upL p ≠ p := by
  intro e
  have := up_under h
  rw [e, not_under_self] at this; cases this
theorem TOk.pth {t : List PE} (h : TOk t) {e : PE} (he : e ∈ t) : pathOkL e.p = true := by
  have := h.ent e he
  simp [entOkL] at this
  exact this.1.1
theorem TOk.dat {t : List PE} (h : TOk t) {e : PE} (he : e ∈ t) : dataOkL e.x = true := by
  have := h.ent e he
  simp [entOkL] at this
  exact this.1.2
theorem TOk.ordP {t : List PE} (h : TOk t) : OrdP PE.p t := h.ord
theorem TOk.get {t : List PE} (h : TOk t) {q : Bs} {e : PE} : getL t q = some e ↔ e ∈ t ∧ e.p = q := by
  rw [getL_at]; exact atP_iff h.ordP
theorem get_none {t : List PE} {q : Bs} : getL t q = none ↔ ∀ e ∈ t, e.p ≠ q := getL_none
/-- Where something would be in. -/
theorem upCode_iff {t : List PE} (h : OrdP PE.p t) {q : Bs} : upCodeL t q = 0 ↔ upL q = [47] ∨ ∃ f ∈ t, f.p = upL q ∧ f.d = true := by
  unfold upCodeL
  by_cases hr : upL q = [47]
  · rw [if_pos hr]; simp [hr]
  · rw [if_neg hr, getL_at]
    cases hg : atP PE.p t (upL q) with
    | none =>
      rw [atP_none] at hg
      constructor
      · intro h; cases h
      · rintro (h1 | ⟨f, h1, h2, _⟩)
        · exact absurd h1 hr
        · exact absurd h2 (hg f h1)
    | some e =>
      have he := (atP_iff h).1 hg
      constructor
      · intro h1
        refine .inr ⟨e, he.1, he.2, ?_⟩
        cases hd : e.d with
        | true => rfl
        | false => simp [hd] at h1
      · rintro (h1 | ⟨f, h1, h2, h3⟩)
        · exact absurd h1 hr
        · have : f = e := by
            have h4 := (atP_iff h).2 ⟨h1, h2⟩
            rw [hg] at h4
            injection h4 with h4
            exact h4.symm
          subst this
          simp [h3]
theorem TOk.par {t : List PE} (h : TOk t) {e : PE} (he : e ∈ t) : upL e.p = [47] ∨ ∃ f ∈ t, f.p = upL e.p ∧ f.d = true :=
  (upCode_iff h.ordP).1 (h.up e he)
theorem TOk.anc_aux {t : List PE} (h : TOk t) (n : Nat) : ∀ {e : PE}, e ∈ t → e.p.length ≤ n → ∀ {q : Bs}, pathOkL q = true → underL e.p q = true → ∃ f ∈ t, f.p = q ∧ f.d = true := by
  induction n with
  | zero =>
    intro e he hl
    have := (path_len (h.pth he)).1
    omega
  | succ n ih =>
    intro e he hl q hq hu
    have hp := h.pth he
    have hup := under_up (b := q) hp
    rw [hu] at hup
    simp only [Bool.true_eq, Bool.or_eq_true, beq_iff_eq] at hup
    rcases h.par he with hr | ⟨f, hf, hfp, hfd⟩
    · rw [hr] at hup
      rcases hup with h1 | h1
      · subst h1; rw [root_no] at hq; cases hq
      · have := under_path h1; rw [root_no] at this; cases this
    · rcases hup with h1 | h1
      · exact ⟨f, hf, hfp.trans h1.symm, hfd⟩
      · have hne : upL e.p ≠ [47] := by
          intro hr; rw [hr] at h1; have := under_path h1; rw [root_no] at this; cases this
        have := up_len hp hne
        rw [← hfp] at h1 this
        exact ih hf (by omega) hq h1
/-- What something is below is there, as a directory. -/
theorem TOk.anc {t : List PE} (h : TOk t) {e : PE} (he : e ∈ t) {q : Bs} (hq : pathOkL q = true) (hu : underL e.p q = true) : ∃ f ∈ t, f.p = q ∧ f.d = true :=
  h.anc_aux _ he (Nat.le_refl _) hq hu
theorem TOk.same {t : List PE} (h : TOk t) {e f : PE} (he : e ∈ t) (hf : f ∈ t) (hp : e.p = f.p) : e = f := by
  have h1 := (atP_iff h.ordP).2 ⟨he, rfl⟩
  have h2 := (atP_iff h.ordP).2 ⟨hf, hp.symm⟩
  rw [h1] at h2
  injection h2
def kidsL (t : List PE) (q : Bs) : List Bs := (t.filter fun e => upL e.p == q).map fun e => nameL e.p
theorem kids_any {t : List PE} (h : TOk t) {q : Bs} : (kidsL t q).isEmpty = !(t.any fun e => underL e.p q) := by
  have key : ∀ n, ∀ e ∈ t, e.p.length ≤ n → underL e.p q = true → ∃ f ∈ t, upL f.p = q := by
    intro n
    induction n with
    | zero =>
      intro e he hl
      have := (path_len (h.pth he)).1
      omega
    | succ n ih =>
      intro e he hl hu
      have hp := h.pth he
      have hup := under_up (b := q) hp
      rw [hu] at hup
      simp only [Bool.true_eq, Bool.or_eq_true, beq_iff_eq] at hup
      rcases hup with h1 | h1
      · exact ⟨e, he, h1.symm⟩
      · rcases h.par he with hr | ⟨f, hf, hfp, _⟩
        · rw [hr] at h1; have := under_path h1; rw [root_no] at this; cases this
        · have hne : upL e.p ≠ [47] := by
            intro hr; rw [hr] at h1; have := under_path h1; rw [root_no] at this; cases this
          have := up_len hp hne
          rw [← hfp] at h1 this
          exact ih f hf (by omega) h1
  rw [Bool.eq_iff_iff, Bool.not_eq_true', List.any_eq_false]
  unfold kidsL
  constructor
  · intro h1 e he hu
    obtain ⟨f, hf, hfq⟩ := key _ e he (Nat.le_refl _) hu
    have : f ∈ t.filter fun e => upL e.p == q := List.mem_filter.2 ⟨hf, by simpa using hfq⟩
    rw [List.isEmpty_iff, List.map_eq_nil_iff] at h1
    rw [h1] at this; cases this
  · intro h1
    rw [List.isEmpty_iff, List.map_eq_nil_iff, List.filter_eq_nil_iff]
    intro e he hu
    simp only [beq_iff_eq] at hu
    exact h1 e he (hu ▸ up_under (h.pth he))
theorem kids_file {t : List PE} (h : TOk t) {q : Bs} (hq : pathOkL q = true) {e : PE} (he : getL t q = some e) (hd : e.d = false) : kidsL t q = [] := by
  unfold kidsL
  rw [List.map_eq_nil_iff, List.filter_eq_nil_iff]
  intro f hf hu
  simp only [beq_iff_eq] at hu
  obtain ⟨g, hg, hgq, hgd⟩ := h.anc hf hq (hu ▸ up_under (h.pth hf))
  have h1 := h.get.1 he
  have := h.same hg h1.1 (hgq.trans h1.2.symm)
  subst this
  rw [hd] at hgd; cases hgd
/-! The codes. -/
def makeC (t : List PE) (q : Bs) : Nat := if upCodeL t q ≠ 0 then upCodeL t q else if (getL t q).isSome = true then 4 else if 16 ≤ t.length then 8 else 0
def putC (t : List PE) (q : Bs) : Nat := if upCodeL t q ≠ 0 then upCodeL t q else match getL t q with
  | some e => if e.d then 5 else 0
  | none => if 16 ≤ t.length then 8 else 0
def rmC (t : List PE) (q : Bs) : Nat := match getL t q with
  | none => 2
  | some e => if e.d then 5 else 0
def rmdirC (t : List PE) (q : Bs) : Nat := match getL t q with
  | none => 2
  | some e => if e.d then (if (t.any fun e => underL e.p q) = true then 6 else 0) else 3
def moveC (t : List PE) (q r : Bs) : Nat := if getL t q = none then 2 else if upCodeL t r ≠ 0 then upCodeL t r else if (getL t r).isSome = true then 4 else if underL r q = true then 7 else if (t.all fun e => moveOkL e.p q r) = true then 0 else 8
/-- The code of what can be read. -/
def codeL (t : List PE) (k : Int) (p r : Bs) : Nat := if k = 1 then makeC t p else if k = 2 then putC t p else if k = 3 then rmC t p else if k = 4 then rmdirC t p else moveC t p r
def movedE (q r : Bs) (e : PE) : PE := ⟨moveL e.p q r, e.d, e.x⟩
/-- What is told when it can be done. -/
def doL (t : List PE) (k : Int) (p r x : Bs) : List PE :=
  if k = 1 then putP PE.p t ⟨p, true, x⟩ else if k = 2 then putP PE.p t ⟨p, false, x⟩ else if k = 5 then (t.map (movedE p r)).foldl (putP PE.p) [] else t.filter fun e => !(e.p == p)
/-- What the program has before it sorts. -/
def rawL (t : List PE) (k : Int) (p r x : Bs) : List PE :=
  if k = 5 then t.map (movedE p r) else (t.filter fun e => !(e.p == p)) ++ (if k = 1 ∨ k = 2 then [⟨p, decide (k = 1), x⟩] else [])
theorem makeC_0 {t : List PE} {q : Bs} (h : makeC t q = 0) : upCodeL t q = 0 ∧ getL t q = none ∧ t.length < 16 := by
  unfold makeC at h
  split at h
  · next h1 => exact absurd h h1
  · next h1 =>
    split at h
    · cases h
    · next h2 =>
      split at h
      · cases h
      · next h3 => exact ⟨by simpa using h1, by simpa using h2, by omega⟩
theorem putC_0 {t : List PE} {q : Bs} (h : putC t q = 0) : upCodeL t q = 0 ∧ ((∃ e, getL t q = some e ∧ e.d = false) ∨ (getL t q = none ∧ t.length < 16)) := by
  unfold putC at h
  split at h
  · next h1 => exact absurd h h1
  · next h1 =>
    refine ⟨by simpa using h1, ?_⟩
    split at h
    · next e he =>
      refine .inl ⟨e, he, ?_⟩
      cases hd : e.d with
      | false => rfl
      | true => simp [hd] at h
    · next he =>
      split at h
      · cases h
      · exact .inr ⟨he, by omega⟩
theorem rmC_0 {t : List PE} {q : Bs} (h : rmC t q = 0) : ∃ e, getL t q = some e ∧ e.d = false := by
  unfold rmC at h
  split at h
  · cases h
  · next e he =>
    refine ⟨e, he, ?_⟩
    cases hd : e.d with
    | false => rfl
    | true => simp [hd] at h
theorem rmdirC_0 {t : List PE} {q : Bs} (h : rmdirC t q = 0) : ∃ e, getL t q = some e ∧ e.d = true ∧ ∀ f ∈ t, underL f.p q = false := by
  unfold rmdirC at h
  split at h
  · cases h
  · next e he =>
    split at h
    · next hd =>
      split at h
      · cases h
      · next h1 =>
        refine ⟨e, he, hd, fun f hf => ?_⟩
        cases hu : underL f.p q with
        | false => rfl
        | true => exact absurd (List.any_eq_true.2 ⟨f, hf, hu⟩) h1
    · cases h
theorem moveC_0 {t : List PE} {q r : Bs} (h : moveC t q r = 0) : (∃ e, getL t q = some e) ∧ upCodeL t r = 0 ∧ getL t r = none ∧ underL r q = false ∧ ∀ e ∈ t, moveOkL e.p q r = true := by
  unfold moveC at h
  split at h
  · cases h
  · next h1 =>
    split at h
    · next h2 => exact absurd h h2
    · next h2 =>
      split at h
      · cases h
      · next h3 =>
        split at h
        · cases h
        · next h4 =>
          split at h
          · next h5 =>
            refine ⟨?_, by simpa using h2, by simpa using h3, by simpa using h4, List.all_eq_true.1 h5⟩
            cases hg : getL t q with
            | none => exact absurd hg h1
            | some e => exact ⟨e, rfl⟩
          · cases h
/-! What is put, what is taken away. -/
theorem tok_put {t : List PE} (h : TOk t) {q x : Bs} {d : Bool} (hq : pathOkL q = true) (hx : dataOkL x = true) (hdx : d = true → x = []) (hup : upCodeL t q = 0) (hl : (∃ e, getL t q = some e ∧ e.d = false) ∨ (getL t q = none ∧ t.length < 16)) : TOk (putP PE.p t ⟨q, d, x⟩) := by
  have ho := ord_putP h.ordP ⟨q, d, x⟩
  refine ⟨?_, ?_, ho, ?_⟩
  · rw [len_putP h.ordP]
    rcases hl with ⟨e, he, _⟩ | ⟨he, hlt⟩
    · rw [getL_at] at he
      rw [show (PE.mk q d x).p = q from rfl, he]
      simpa using h.most
    · rw [getL_at] at he
      rw [show (PE.mk q d x).p = q from rfl, he]
      simp; omega
  · intro e he
    rcases (mem_putP h.ordP).1 he with rfl | ⟨he, _⟩
    · simp only [entOkL, hq, hx, Bool.true_and, Bool.and_true, Bool.or_eq_true, Bool.not_eq_true', beq_iff_eq]
      cases d with
      | false => exact .inl rfl
      | true => exact .inr (hdx rfl)
    · exact h.ent e he
  · have keep : ∀ f ∈ t, f.d = true → f ∈ putP PE.p t ⟨q, d, x⟩ ∨ ∃ e, getL t q = some e ∧ e.d = false ∧ f.p = q := fun f hf hfd => by
      by_cases hfq : f.p = q
      · rcases hl with ⟨e, he, hd⟩ | ⟨he, _⟩
        · exact .inr ⟨e, he, hd, hfq⟩
        · exact absurd hfq (getL_none.1 he f hf)
      · exact .inl ((mem_putP h.ordP).2 (.inr ⟨hf, hfq⟩))
    have keep' : ∀ f ∈ t, f.d = true → f ∈ putP PE.p t ⟨q, d, x⟩ := fun f hf hfd => by
      rcases keep f hf hfd with h1 | ⟨e, he, hd, hfq⟩
      · exact h1
      · have h2 := h.get.1 he
        have := h.same hf h2.1 (hfq.trans h2.2.symm)
        subst this
        rw [hd] at hfd; cases hfd
    intro e he
    rw [upCode_iff ho]
    rcases (mem_putP h.ordP).1 he with rfl | ⟨he, _⟩
    · rcases (upCode_iff h.ordP).1 hup with h1 | ⟨f, hf, hfp, hfd⟩
      · exact .inl h1
      · exact .inr ⟨f, keep' f hf hfd, hfp, hfd⟩
    · rcases h.par he with h1 | ⟨f, hf, hfp, hfd⟩
      · exact .inl h1
      · exact .inr ⟨f, keep' f hf hfd, hfp, hfd⟩
theorem tok_off {t : List PE} (h : TOk t) {q : Bs} (hq : ∀ e ∈ t, upL e.p ≠ q ∨ ∃ f, getL t q = some f ∧ f.d = false) : TOk (t.filter fun e => !(e.p == q)) := by
  have ho : OrdP PE.p (t.filter fun e => !(e.p == q)) := h.ordP.filter _
  refine ⟨Nat.le_trans (List.length_filter_le _ _) h.most, fun e he => h.ent e (List.mem_filter.1 he).1, ho, fun e he => ?_⟩
  rw [upCode_iff ho]
  have he' := (List.mem_filter.1 he).1
  rcases h.par he' with h1 | ⟨f, hf, hfp, hfd⟩
  · exact .inl h1
  · refine .inr ⟨f, List.mem_filter.2 ⟨hf, ?_⟩, hfp, hfd⟩
    have : f.p ≠ q := by
      intro hfq
      rcases hq e he' with h2 | ⟨g, hg, hgd⟩
      · exact h2 (hfp.symm.trans hfq)
      · have h3 := h.get.1 hg
        have := h.same hf h3.1 (hfq.trans h3.2.symm)
        subst this
        rw [hgd] at hfd; cases hfd
    simpa using this
end Go.Proofs.YtkhbkhibjflgmaaDoor
