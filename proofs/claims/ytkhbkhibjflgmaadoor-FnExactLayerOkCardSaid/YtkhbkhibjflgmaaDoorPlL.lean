/- Plain mathematics of layers: right layers, what they hide, a layer on a tree. No program in sight. Conditions: each theorem's own. -/
import Derived.Test.YtkhbkhibjflgmaaDoorPlU
namespace Go.Proofs.YtkhbkhibjflgmaaDoor
open Go.Op
/-- A mark, plainly. -/
structure PM where
  p : Bs
  k : Int
  x : Bs
deriving DecidableEq
def markOkL (m : PM) : Bool := decide (1 ≤ m.k) && decide (m.k ≤ 4) && pathOkL m.p && dataOkL m.x && (decide (m.k = 1) || m.x == [])
def dirM (m : PM) : Bool := decide (m.k = 2) || decide (m.k = 4)
def upM (l : List PM) (q : Bs) : Bool := upL q == [47] || match atP PM.p l (upL q) with
  | some m => dirM m
  | none => false
def bareL (l : List PM) (q : Bs) : Bool := l.any fun m => decide (m.k = 4) && underL q m.p
def hidesL (l : List PM) (q : Bs) : Bool := l.any fun m => decide (m.k ≠ 2) && (m.p == q || underL q m.p)
/-- A right layer. -/
structure LOk (l : List PM) : Prop where
  most : l.length ≤ 32
  mks : ∀ m ∈ l, markOkL m = true
  ord : OrdP PM.p l
  up : ∀ m ∈ l, upM l m.p = true
  bare : ∀ m ∈ l, 2 < m.k → bareL l m.p = false
/-- What is asked of the mark at place j: as the program asks. -/
def MAskI (l : List PM) (j : Nat) (m : PM) : Prop := markOkL m = true ∧ (∀ f, 0 < j → l[j - 1]? = some f → bytesLess f.p m.p = true) ∧ upM l m.p = true ∧ (2 < m.k → bareL l m.p = false)
/-- As the reference asks: of those ahead. -/
def MAskS (l : List PM) (j : Nat) (m : PM) : Prop := markOkL m = true ∧ (∀ f, 0 < j → l[j - 1]? = some f → bytesLess f.p m.p = true) ∧ upM (l.take j) m.p = true ∧ (2 < m.k → bareL (l.take j) m.p = false)
theorem markOk_path {m : PM} (h : markOkL m = true) : pathOkL m.p = true := by simp [markOkL] at h; exact h.1.1.2
theorem markOk_data {m : PM} (h : markOkL m = true) : dataOkL m.x = true := by simp [markOkL] at h; exact h.1.2
theorem markOk_kind {m : PM} (h : markOkL m = true) : 1 ≤ m.k ∧ m.k ≤ 4 := by simp [markOkL] at h; exact h.1.1.1
theorem markOk_none {m : PM} (h : markOkL m = true) (hk : m.k ≠ 1) : m.x = [] := by simp [markOkL, hk] at h; exact h.2
theorem LOk.pth {l : List PM} (h : LOk l) {m : PM} (hm : m ∈ l) : pathOkL m.p = true := markOk_path (h.mks m hm)
theorem ordP_of {α : Type} {f : α → Bs} (t : List α) (h : ∀ (j : Nat) (e g : α), t[j]? = some e → 0 < j → t[j - 1]? = some g → bytesLess (f g) (f e) = true) : OrdP f t := by
  have key : ∀ (d i : Nat) (g e : α), t[i]? = some g → t[i + d + 1]? = some e → bytesLess (f g) (f e) = true := by
    intro d
    induction d with
    | zero => intro i g e hf he; exact h (i + 1) e g he (by omega) (by simpa using hf)
    | succ d ih =>
      intro i g e hf he
      have hl : i + (d + 1) + 1 < t.length := (List.getElem?_eq_some_iff.1 he).1
      have hg : t[i + d + 1]? = some (t[i + d + 1]'(by omega)) := List.getElem?_eq_getElem (by omega)
      have h1 := ih i g _ hf hg
      have h2 := h (i + (d + 1) + 1) e (t[i + d + 1]'(by omega)) he (by omega) (by rw [show i + (d + 1) + 1 - 1 = i + d + 1 by omega]; exact hg)
      exact less_trans h1 h2
  rw [OrdP, List.pairwise_iff_getElem]
  intro i j hi hj hij
  obtain ⟨d, rfl⟩ : ∃ d, j = i + d + 1 := ⟨j - i - 1, by omega⟩
  exact key d i _ _ (List.getElem?_eq_getElem hi) (List.getElem?_eq_getElem hj)
theorem ordP_at {α : Type} {f : α → Bs} {t : List α} (h : OrdP f t) {i j : Nat} {g e : α} (hij : i < j) (hf : t[i]? = some g) (he : t[j]? = some e) : bytesLess (f g) (f e) = true := by
  obtain ⟨h1, h2⟩ := List.getElem?_eq_some_iff.1 hf
  obtain ⟨h3, h4⟩ := List.getElem?_eq_some_iff.1 he
  have := (List.pairwise_iff_getElem.1 h) i j h1 h3 hij
  rw [h2, h4] at this
  exact this
theorem lok_iff (l : List PM) : LOk l ↔ l.length ≤ 32 ∧ ∀ (j : Nat) (m : PM), l[j]? = some m → MAskI l j m := by
  constructor
  · intro h
    refine ⟨h.most, fun j e he => ?_⟩
    have hm := List.mem_of_getElem? he
    exact ⟨h.mks e hm, fun f hj hf => ordP_at h.ord (by omega) hf he, h.up e hm, h.bare e hm⟩
  · rintro ⟨h1, h2⟩
    refine ⟨h1, fun e he => ?_, ordP_of l (fun j e f he hj hf => (h2 j e he).2.1 f hj hf), fun e he => ?_, fun e he => ?_⟩
    · obtain ⟨j, hj⟩ := List.getElem?_of_mem he
      exact (h2 j e hj).1
    · obtain ⟨j, hj⟩ := List.getElem?_of_mem he
      exact (h2 j e hj).2.2.1
    · obtain ⟨j, hj⟩ := List.getElem?_of_mem he
      exact (h2 j e hj).2.2.2
/-- In an ordered list what stands below q stands ahead of j, if q is at j or below. -/
theorem at_take {α : Type} {f : α → Bs} {t : List α} (h : OrdP f t) {j : Nat} {e : α} (he : t[j]? = some e) {q : Bs} (hq : bytesLess q (f e) = true) : atP f (t.take j) q = atP f t q := by
  conv => rhs; rw [← List.take_append_drop j t, atP_append]
  cases hc : atP f (t.take j) q with
  | some g => rfl
  | none =>
    symm
    show atP f (t.drop j) q = none
    rw [atP_none]
    intro g hg hge
    obtain ⟨i, hi⟩ := List.getElem?_of_mem hg
    rw [List.getElem?_drop] at hi
    by_cases h0 : i = 0
    · subst h0
      rw [Nat.add_zero, he] at hi
      injection hi with hi
      subst hi
      rw [hge, less_irrefl] at hq; cases hq
    · have := ordP_at h (by omega) he hi
      rw [hge] at this
      have := less_trans hq this
      rw [less_irrefl] at this; cases this
theorem upM_take {l : List PM} (h : OrdP PM.p l) {j : Nat} {m : PM} (hm : l[j]? = some m) (hp : pathOkL m.p = true) : upM (l.take j) m.p = upM l m.p := by
  unfold upM
  by_cases hr : upL m.p = [47]
  · simp [hr]
  · rw [at_take h hm (up_less hp hr)]
theorem bare_take {l : List PM} (h : OrdP PM.p l) {j : Nat} {m : PM} (hm : l[j]? = some m) (hp : ∀ e ∈ l, pathOkL e.p = true) : bareL (l.take j) m.p = bareL l m.p := by
  rw [Bool.eq_iff_iff]
  unfold bareL
  rw [List.any_eq_true, List.any_eq_true]
  constructor
  · rintro ⟨x, hx, h1⟩; exact ⟨x, List.mem_of_mem_take hx, h1⟩
  · rintro ⟨x, hx, h1⟩
    refine ⟨x, ?_, h1⟩
    simp only [Bool.and_eq_true] at h1
    have hl := under_less h1.2 (hp x hx)
    obtain ⟨i, hi⟩ := List.getElem?_of_mem hx
    by_cases hij : i < j
    · exact List.mem_of_getElem? (i := i) (by rw [List.getElem?_take, if_pos hij]; exact hi)
    · exfalso
      by_cases e : i = j
      · subst e
        rw [hm] at hi; injection hi with hi; subst hi
        rw [less_irrefl] at hl; cases hl
      · have := ordP_at h (by omega) hm hi
        have := less_trans hl this
        rw [less_irrefl] at this; cases this
theorem lok_iffS (l : List PM) : LOk l ↔ l.length ≤ 32 ∧ ∀ (j : Nat) (m : PM), l[j]? = some m → MAskS l j m := by
  rw [lok_iff]
  constructor
  · rintro ⟨h1, h2⟩
    have ho := ordP_of l (fun j e f he hj hf => (h2 j e he).2.1 f hj hf)
    have hp : ∀ e ∈ l, pathOkL e.p = true := fun e he => by
      obtain ⟨j, hj⟩ := List.getElem?_of_mem he
      exact markOk_path (h2 j e hj).1
    refine ⟨h1, fun j e he => ?_⟩
    obtain ⟨a, b, c, d⟩ := h2 j e he
    exact ⟨a, b, by rw [upM_take ho he (markOk_path a)]; exact c, fun hk => by rw [bare_take ho he hp]; exact d hk⟩
  · rintro ⟨h1, h2⟩
    have ho := ordP_of l (fun j e f he hj hf => (h2 j e he).2.1 f hj hf)
    have hp : ∀ e ∈ l, pathOkL e.p = true := fun e he => by
      obtain ⟨j, hj⟩ := List.getElem?_of_mem he
      exact markOk_path (h2 j e hj).1
    refine ⟨h1, fun j e he => ?_⟩
    obtain ⟨a, b, c, d⟩ := h2 j e he
    exact ⟨a, b, by rw [← upM_take ho he (markOk_path a)]; exact c, fun hk => by rw [← bare_take ho he hp]; exact d hk⟩
theorem LOk.par {l : List PM} (h : LOk l) {m : PM} (hm : m ∈ l) : upL m.p = [47] ∨ ∃ f ∈ l, f.p = upL m.p ∧ dirM f = true := by
  have h1 := h.up m hm
  unfold upM at h1
  simp only [Bool.or_eq_true, beq_iff_eq] at h1
  rcases h1 with h1 | h1
  · exact .inl h1
  · cases hc : atP PM.p l (upL m.p) with
    | none => rw [hc] at h1; cases h1
    | some f =>
      rw [hc] at h1
      obtain ⟨h2, h3⟩ := atP_some hc
      exact .inr ⟨f, h2, h3, h1⟩
theorem upM_of {l : List PM} (h : OrdP PM.p l) {q : Bs} : upM l q = true ↔ upL q = [47] ∨ ∃ f ∈ l, f.p = upL q ∧ dirM f = true := by
  unfold upM
  simp only [Bool.or_eq_true, beq_iff_eq]
  constructor
  · rintro (h1 | h1)
    · exact .inl h1
    · cases hc : atP PM.p l (upL q) with
      | none => rw [hc] at h1; cases h1
      | some f =>
        rw [hc] at h1
        obtain ⟨h2, h3⟩ := atP_some hc
        exact .inr ⟨f, h2, h3, h1⟩
  · rintro (h1 | ⟨f, hf, hfp, hd⟩)
    · exact .inl h1
    · refine .inr ?_
      rw [(atP_iff h).2 ⟨hf, hfp⟩]; exact hd
theorem LOk.same {l : List PM} (h : LOk l) {e f : PM} (he : e ∈ l) (hf : f ∈ l) (hp : e.p = f.p) : e = f := by
  have h1 := (atP_iff h.ord).2 ⟨he, rfl⟩
  have h2 := (atP_iff h.ord).2 ⟨hf, hp.symm⟩
  rw [h1] at h2
  injection h2
/-- What a mark is below has marks of directories on the way. -/
theorem LOk.anc {l : List PM} (h : LOk l) {m : PM} (hm : m ∈ l) {q : Bs} (hq : pathOkL q = true) (hu : underL m.p q = true) : ∃ f ∈ l, f.p = q ∧ dirM f = true := by
  have key : ∀ n, ∀ e ∈ l, e.p.length ≤ n → underL e.p q = true → ∃ f ∈ l, f.p = q ∧ dirM f = true := by
    intro n
    induction n with
    | zero =>
      intro e he hl
      have := (path_len (h.pth he)).1
      omega
    | succ n ih =>
      intro e he hl hu
      have hp := h.pth he
      have hup := under_up (b := q) hp
      rw [hu] at hup
      simp only [Bool.true_eq, Bool.or_eq_true, beq_iff_eq] at hup
      rcases h.par he with hr | ⟨f, hf, hfp, hfd⟩
      · rw [hr] at hup
        rcases hup with h1 | h1
        · subst h1; rw [root_no] at hq; cases hq
        · have := under_path h1; rw [root_no] at this; cases this
      · rcases hup with h1 | h1
        · exact ⟨f, hf, hfp.trans h1.symm, hfd⟩
        · have hne : upL e.p ≠ [47] := by
            intro hr; rw [hr] at h1; have := under_path h1; rw [root_no] at this; cases this
          have := up_len hp hne
          rw [← hfp] at h1 this
          exact ih f hf (by omega) h1
  exact key _ m hm (Nat.le_refl _) hu
theorem hides_iff {l : List PM} {q : Bs} : hidesL l q = true ↔ ∃ m ∈ l, m.k ≠ 2 ∧ (m.p = q ∨ underL q m.p = true) := by
  unfold hidesL
  rw [List.any_eq_true]
  simp
theorem bare_iff {l : List PM} {q : Bs} : bareL l q = true ↔ ∃ m ∈ l, m.k = 4 ∧ underL q m.p = true := by
  unfold bareL
  rw [List.any_eq_true]
  simp
theorem hides_down {l : List PM} {q s : Bs} (h : hidesL l q = true) (hu : underL s q = true) : hidesL l s = true := by
  rw [hides_iff] at h ⊢
  obtain ⟨m, hm, hk, h1 | h1⟩ := h
  · exact ⟨m, hm, hk, .inr (h1 ▸ hu)⟩
  · exact ⟨m, hm, hk, .inr (under_trans hu h1)⟩
theorem hides_path {l : List PM} (h : LOk l) {q : Bs} (hh : hidesL l q = true) : pathOkL q = true := by
  obtain ⟨m, hm, _, h1 | h1⟩ := hides_iff.1 hh
  · exact h1 ▸ h.pth hm
  · exact under_path h1
/-! A layer on a tree. -/
def toE (m : PM) : PE := ⟨m.p, dirM m, m.x⟩
/-- What the program has before it sorts. -/
def onRaw (l : List PM) (t : List PE) : List PE := (t.filter fun e => (atP PM.p l e.p).isNone && !hidesL l e.p) ++ (l.filter fun m => decide (m.k ≠ 3)).map toE
def onL (l : List PM) (t : List PE) : List PE := ((l.filter fun m => decide (m.k ≠ 3)).map toE).foldl (putP PE.p) (t.filter fun e => !hidesL l e.p)
theorem map_dis {α β : Type} {f : α → Bs} {g : β → Bs} {u : List α} (h : α → β) (hp : ∀ a, g (h a) = f a) (hd : DisP f u) : DisP g (u.map h) := by
  unfold DisP at *
  rw [List.pairwise_map]
  exact List.Pairwise.imp (fun {a b} hab => by rw [hp, hp]; exact hab) hd
theorem atP_map {α β : Type} {f : α → Bs} {g : β → Bs} (u : List α) (h : α → β) (hp : ∀ a, g (h a) = f a) (q : Bs) : atP g (u.map h) q = (atP f u q).map h := by
  induction u with
  | nil => rfl
  | cons a r ih =>
    rw [List.map_cons, atP, atP, hp]
    split
    · rfl
    · exact ih
theorem dis_filter {α : Type} {f : α → Bs} {u : List α} (hd : DisP f u) (p : α → Bool) : DisP f (u.filter p) := List.Pairwise.filter p hd
theorem on_dis {l : List PM} (h : OrdP PM.p l) : DisP PE.p ((l.filter fun m => decide (m.k ≠ 3)).map toE) := map_dis (f := PM.p) toE (fun _ => rfl) (dis_filter h.dis _)
theorem on_ord (l : List PM) {t : List PE} (ht : OrdP PE.p t) : OrdP PE.p (onL l t) := ord_fold (ht.filter _)
theorem filt_at {α : Type} {f : α → Bs} {t : List α} (h : OrdP f t) (p : α → Bool) (q : Bs) : atP f (t.filter p) q = match atP f t q with
    | some e => if p e = true then some e else none
    | none => none := by
  refine opt_ext fun e => ?_
  rw [atP_filter h]
  cases hc : atP f t q with
  | none => simp
  | some g =>
    constructor
    · rintro ⟨h1, h2⟩
      injection h1 with h1; subst h1
      show (if p g = true then some g else none) = some g
      rw [if_pos h2]
    · intro h1
      have h1 : (if p g = true then some g else none) = some e := h1
      split at h1
      · next h2 => injection h1 with h1; subst h1; exact ⟨rfl, h2⟩
      · cases h1
theorem at_on {l : List PM} (h : OrdP PM.p l) {t : List PE} (ht : OrdP PE.p t) (q : Bs) : atP PE.p (onL l t) q = match atP PM.p l q with
    | some m => if m.k = 3 then none else some (toE m)
    | none => if hidesL l q = true then none else atP PE.p t q := by
  rw [onL, atP_fold (on_dis h) (ht.filter _), atP_map (f := PM.p) _ toE (fun _ => rfl), filt_at h, filt_at ht]
  cases hc : atP PM.p l q with
  | some m =>
    obtain ⟨h1, h2⟩ := atP_some hc
    by_cases hk : m.k = 3
    · simp only [hk]
      cases hd : atP PE.p t q with
      | none => simp
      | some e =>
        have hh : hidesL l e.p = true := hides_iff.2 ⟨m, h1, by omega, .inl (by rw [h2, (atP_some hd).2])⟩
        simp [hh]
    · simp [hk]
  | none =>
    cases hd : atP PE.p t q with
    | none => simp
    | some e =>
      rw [← (atP_some hd).2]
      cases hh : hidesL l e.p <;> simp [hh]
theorem on_raw_mem {l : List PM} (h : OrdP PM.p l) {t : List PE} (ht : OrdP PE.p t) (e : PE) : e ∈ onRaw l t ↔ e ∈ onL l t := by
  have h2 : e ∈ onL l t ↔ atP PE.p (onL l t) e.p = some e := by rw [atP_iff (on_ord l ht)]; simp
  rw [h2, at_on h ht, onRaw, List.mem_append, List.mem_filter, List.mem_map]
  cases hc : atP PM.p l e.p with
  | some m =>
    obtain ⟨h3, h4⟩ := atP_some hc
    simp only [Option.isNone_some, Bool.false_and, Bool.false_eq_true, and_false, false_or]
    constructor
    · rintro ⟨m', hm', rfl⟩
      obtain ⟨h5, h6⟩ := List.mem_filter.1 hm'
      have : m = m' := by
        have h7 := (atP_iff h).2 ⟨h5, rfl⟩
        rw [show m'.p = (toE m').p from rfl, hc] at h7
        injection h7
      subst this
      simp only [decide_eq_true_eq] at h6
      rw [if_neg h6]
    · intro h5
      split at h5
      · cases h5
      · next h6 => injection h5 with h5; exact ⟨m, List.mem_filter.2 ⟨h3, by simpa using h6⟩, h5⟩
  | none =>
    have h3 : ¬ ∃ a, a ∈ l.filter (fun m => decide (m.k ≠ 3)) ∧ toE a = e := by
      rintro ⟨m', hm', rfl⟩
      exact atP_none.1 hc m' (List.mem_filter.1 hm').1 rfl
    simp only [Option.isNone_none, Bool.true_and, h3, or_false, Bool.not_eq_true']
    cases hh : hidesL l e.p with
    | true => simp
    | false =>
      simp only [Bool.false_eq_true, if_false, atP_iff ht, and_true]
theorem on_raw_dis {l : List PM} (h : OrdP PM.p l) {t : List PE} (ht : OrdP PE.p t) : DisP PE.p (onRaw l t) := by
  unfold onRaw DisP
  rw [List.pairwise_append]
  refine ⟨dis_filter ht.dis _, on_dis h, fun a ha b hb => ?_⟩
  obtain ⟨m, hm, rfl⟩ := List.mem_map.1 hb
  have h1 := (List.mem_filter.1 ha).2
  simp only [Bool.and_eq_true, Option.isNone_iff_eq_none] at h1
  intro he
  exact atP_none.1 h1.1 m (List.mem_filter.1 hm).1 he.symm
theorem on_of_raw {l : List PM} (h : OrdP PM.p l) {t : List PE} (ht : OrdP PE.p t) {s : List PE} (hp : s.Perm (onRaw l t)) (hs : s.Pairwise fun a b => bytesLess b.p a.p = false) : s = onL l t := by
  refine ord_ext (ord_of_sorted hp (on_raw_dis h ht) hs) (on_ord l ht) fun e => ?_
  rw [hp.mem_iff, on_raw_mem h ht]
theorem perm_of_mem {α : Type} {f : α → Bs} {a b : List α} (ha : DisP f a) (hb : OrdP f b) (h : ∀ e, e ∈ a ↔ e ∈ b) : a.length = b.length := by
  have h1 : a.foldl (putP f) [] = b := ord_ext (ord_fold ord_nil) hb fun e => by rw [mem_fold ha ord_nil, ← h]; simp
  rw [← h1, fold_len ha ord_nil (fun y _ x hx => by cases hx)]; simp
theorem on_raw_len {l : List PM} (h : OrdP PM.p l) {t : List PE} (ht : OrdP PE.p t) : (onRaw l t).length = (onL l t).length :=
  perm_of_mem (on_raw_dis h ht) (on_ord l ht) (on_raw_mem h ht)
theorem on_tok {l : List PM} (h : LOk l) {t : List PE} (ht : TOk t) (hl : (onL l t).length ≤ 16) : TOk (onL l t) := by
  have ho := on_ord l ht.ordP
  have hmem : ∀ e, e ∈ onL l t ↔ atP PE.p (onL l t) e.p = some e := fun e => by rw [atP_iff ho]; simp
  refine ⟨hl, fun e he => ?_, ho, fun e he => ?_⟩
  · rw [← on_raw_mem h.ord ht.ordP, onRaw, List.mem_append] at he
    rcases he with he | he
    · exact ht.ent e (List.mem_filter.1 he).1
    · obtain ⟨m, hm, rfl⟩ := List.mem_map.1 he
      have hok := h.mks m (List.mem_filter.1 hm).1
      simp only [entOkL, toE, markOk_path hok, markOk_data hok, Bool.true_and, Bool.or_eq_true, Bool.not_eq_true', beq_iff_eq]
      by_cases hd : dirM m = true
      · exact .inr (markOk_none hok (by rintro h1; simp [dirM, h1] at hd))
      · exact .inl (by simpa using hd)
  · rw [upCode_iff ho]
    rw [hmem, at_on h.ord ht.ordP] at he
    cases hc : atP PM.p l e.p with
    | some m =>
      rw [hc] at he
      obtain ⟨h1, h2⟩ := atP_some hc
      rcases h.par h1 with h3 | ⟨f, hf, hfp, hfd⟩
      · exact .inl (h2 ▸ h3)
      · refine .inr ⟨toE f, ?_, by rw [← h2]; exact hfp, hfd⟩
        rw [hmem, at_on h.ord ht.ordP, show (toE f).p = f.p from rfl, atP_mem h.ord hf]
        have : f.k ≠ 3 := by rintro h1; simp [dirM, h1] at hfd
        simp [this]
    | none =>
      rw [hc] at he
      have he : (if hidesL l e.p = true then none else atP PE.p t e.p) = some e := he
      split at he
      · cases he
      · next hh =>
        obtain ⟨h1, _⟩ := atP_some he
        rcases ht.par h1 with h3 | ⟨f, hf, hfp, hfd⟩
        · exact .inl h3
        · have hu : underL e.p f.p = true := by rw [hfp]; exact up_under (ht.pth h1)
          have hfh : hidesL l f.p ≠ true := fun h4 => hh (hides_down h4 hu)
          cases hd : atP PM.p l f.p with
          | none =>
            refine .inr ⟨f, ?_, hfp, hfd⟩
            rw [hmem, at_on h.ord ht.ordP, hd]
            show (if hidesL l f.p = true then none else atP PE.p t f.p) = some f
            rw [if_neg hfh, atP_mem ht.ordP hf]
          | some m =>
            obtain ⟨h4, h5⟩ := atP_some hd
            have hk : m.k = 2 := Classical.byContradiction fun h6 => hfh (hides_iff.2 ⟨m, h4, h6, .inl h5⟩)
            refine .inr ⟨toE m, ?_, by rw [← hfp]; exact h5, by simp [toE, dirM, hk]⟩
            rw [hmem, at_on h.ord ht.ordP, show (toE m).p = f.p from h5, hd]
            simp [hk]
theorem on_nil {t : List PE} (ht : OrdP PE.p t) : onL [] t = t := ord_ext_at (on_ord _ ht) ht fun q => by rw [at_on ord_nil ht]; simp [atP, hidesL]
theorem on_twice {l : List PM} (h : OrdP PM.p l) {t : List PE} (ht : OrdP PE.p t) : onL l (onL l t) = onL l t := by
  refine ord_ext_at (on_ord _ (on_ord _ ht)) (on_ord _ ht) fun q => ?_
  rw [at_on h (on_ord l ht), at_on h ht]
  cases atP PM.p l q with
  | some m => rfl
  | none =>
    show (if hidesL l q = true then none else if hidesL l q = true then none else atP PE.p t q) = if hidesL l q = true then none else atP PE.p t q
    split <;> rfl
end Go.Proofs.YtkhbkhibjflgmaaDoor
