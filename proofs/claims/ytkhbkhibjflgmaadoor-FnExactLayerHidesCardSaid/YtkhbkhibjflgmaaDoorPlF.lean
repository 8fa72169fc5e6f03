/- Plain laws of layers that make one tree of another one. No program in sight. Conditions: each theorem's own. -/
import Derived.Test.YtkhbkhibjflgmaaDoorPlD
namespace Go.Proofs.YtkhbkhibjflgmaaDoor
open Go.Op
theorem dmark_iff {b : List PE} (hb : TOk b) {q : Bs} : (dmark b q).isSome = true ↔ upCodeL b q = 0 := by
  unfold dmark
  cases hg : getL b q with
  | some e =>
    obtain ⟨h1, h2⟩ := hb.get.1 hg
    constructor
    · intro _; exact h2 ▸ hb.up e h1
    · intro _; rfl
  | none =>
    by_cases hu : upCodeL b q = 0
    · simp [hu]
    · simp [hu]
theorem dmark_anc {b : List PE} (hb : TOk b) {q s : Bs} (hq : pathOkL q = true) (hd : (dmark b q).isSome = true) (hs : pathOkL s = true) (hu : underL q s = true) : ∃ f ∈ b, f.p = s ∧ f.d = true := by
  rw [dmark_iff hb] at hd
  rcases (upCode_iff hb.ordP).1 hd with hr | ⟨f, hf, hfp, hfd⟩
  · rw [ups_root hq hr hs] at hu; cases hu
  · have h1 := under_up (b := s) hq
    rw [hu] at h1
    simp only [Bool.true_eq, Bool.or_eq_true, beq_iff_eq] at h1
    rcases h1 with h1 | h1
    · exact ⟨f, hf, hfp.trans h1.symm, hfd⟩
    · exact hb.anc hf hs (hfp ▸ h1)
theorem ent_dir {b : List PE} (hb : TOk b) {f : PE} (hf : f ∈ b) (hd : f.d = true) : f = ⟨f.p, true, []⟩ := by
  have h1 := hb.ent f hf
  simp only [entOkL, Bool.and_eq_true, Bool.or_eq_true, Bool.not_eq_true', beq_iff_eq] at h1
  obtain ⟨p, d, x⟩ := f
  simp only at hd h1 ⊢
  subst hd
  rcases h1.2 with h2 | h2
  · cases h2
  · rw [h2]
section
variable {a b : List PE}
theorem diff_ord (ha : TOk a) (hb : TOk b) : OrdP PM.p (diffL a b) := (diffL_at fun _ hq => turned_path ha hb hq).1
theorem diff_at (ha : TOk a) (hb : TOk b) (s : Bs) : atP PM.p (diffL a b) s = diffAt b (turnedL a b) s := (diffL_at fun _ hq => turned_path ha hb hq).2 s
open Classical in
theorem diff_look (ha : TOk a) (hb : TOk b) {s : Bs} {m : PM} (h : atP PM.p (diffL a b) s = some m) : (s ∈ turnedL a b ∧ dmark b s = some m) ∨ (s ∉ turnedL a b ∧ m = updm s ∧ pathOkL s = true ∧ (∃ f ∈ b, f.p = s ∧ f.d = true) ∧ ∃ q ∈ turnedL a b, (dmark b q).isSome = true ∧ underL q s = true) := by
  rw [diff_at ha hb] at h
  unfold diffAt at h
  cases hc : baseAt b (turnedL a b) s with
  | some x =>
    rw [hc] at h
    injection h with h; subst h
    unfold baseAt at hc
    split at hc
    · next hs => exact .inl ⟨hs, hc⟩
    · cases hc
  | none =>
    rw [hc] at h
    have h : (if ancAt b (turnedL a b) s then some (updm s) else none) = some m := h
    split at h
    · next hA =>
      injection h with h
      obtain ⟨h1, q, hq, h2, h3⟩ := hA
      have h4 := dmark_anc hb (turned_path ha hb hq) h2 h1 h3
      refine .inr ⟨fun hs => ?_, h.symm, h1, h4, q, hq, h2, h3⟩
      obtain ⟨f, hf, hfp, _⟩ := h4
      unfold baseAt at hc
      rw [if_pos hs] at hc
      unfold dmark at hc
      rw [hb.get.2 ⟨hf, hfp⟩] at hc
      cases hc
    · cases h
theorem diff_base (ha : TOk a) (hb : TOk b) {s : Bs} {m : PM} (hs : s ∈ turnedL a b) (hd : dmark b s = some m) : atP PM.p (diffL a b) s = some m := by
  rw [diff_at ha hb]
  unfold diffAt baseAt
  rw [if_pos hs, hd]
open Classical in
theorem diff_anc (ha : TOk a) (hb : TOk b) {q s : Bs} (hq : q ∈ turnedL a b) (hd : (dmark b q).isSome = true) (hs : pathOkL s = true) (hu : underL q s = true) : atP PM.p (diffL a b) s = some (updm s) := by
  obtain ⟨f, hf, hfp, hfd⟩ := dmark_anc hb (turned_path ha hb hq) hd hs hu
  rw [diff_at ha hb]
  unfold diffAt baseAt
  by_cases h1 : s ∈ turnedL a b
  · rw [if_pos h1]
    unfold dmark
    rw [hb.get.2 ⟨hf, hfp⟩]
    simp [hfd]
  · rw [if_neg h1]
    show (if _ then _ else _) = _
    rw [if_pos ⟨hs, q, hq, hd, hu⟩]
theorem dmark_kind {q : Bs} {m : PM} (h : dmark b q = some m) : m.k = 1 ∨ m.k = 2 ∨ m.k = 3 := by
  unfold dmark at h
  split at h
  · injection h with h; subst h; split
    · exact .inr (.inl rfl)
    · exact .inl rfl
  · split at h
    · injection h with h; subst h; exact .inr (.inr rfl)
    · cases h
theorem diff_kind (ha : TOk a) (hb : TOk b) {m : PM} (hm : m ∈ diffL a b) : m.k = 1 ∨ m.k = 2 ∨ m.k = 3 := by
  rcases diff_look ha hb (atP_mem (diff_ord ha hb) hm) with ⟨_, h⟩ | ⟨_, h, _⟩
  · exact dmark_kind h
  · rw [h]; exact .inr (.inl rfl)
/-- What a mark of the difference says of the tree that is made. -/
theorem diff_says (ha : TOk a) (hb : TOk b) {s : Bs} {m : PM} (h : atP PM.p (diffL a b) s = some m) : (m.k = 3 → atP PE.p b s = none) ∧ (m.k ≠ 3 → atP PE.p b s = some (toE m)) := by
  rcases diff_look ha hb h with ⟨_, h1⟩ | ⟨_, rfl, _, ⟨f, hf, hfp, hfd⟩, _⟩
  · unfold dmark at h1
    rw [getL_at] at h1
    cases hc : atP PE.p b s with
    | some e =>
      rw [hc] at h1
      injection h1 with h1
      obtain ⟨h2, h3⟩ := atP_some hc
      subst h1
      by_cases hd : e.d = true
      · rw [if_pos hd]
        refine ⟨fun h => (by cases h), fun _ => ?_⟩
        rw [ent_dir hb h2 hd, h3]; rfl
      · rw [if_neg hd]
        refine ⟨fun h => (by cases h), fun _ => ?_⟩
        obtain ⟨p, d, x⟩ := e
        have hd : d = false := by simpa using hd
        have h3 : p = s := h3
        subst hd; subst h3; rfl
    | none =>
      rw [hc] at h1
      have h1 : (if upCodeL b s = 0 then some (PM.mk s 3 []) else none) = some m := h1
      split at h1
      · injection h1 with h1; subst h1
        exact ⟨fun _ => rfl, fun h => absurd rfl h⟩
      · cases h1
  · refine ⟨fun h => (by cases h), fun _ => ?_⟩
    rw [(atP_iff hb.ordP).2 ⟨hf, hfp⟩, ent_dir hb hf hfd, hfp]; rfl
theorem diff_hide (ha : TOk a) (hb : TOk b) (n : Nat) : ∀ s : Bs, s.length ≤ n → (∃ e ∈ a, e.p = s) → atP PE.p b s = none → hidesL (diffL a b) s = true := by
  induction n with
  | zero =>
    rintro s hl ⟨e, he, rfl⟩ _
    have := (path_len (ha.pth he)).1
    omega
  | succ n ih =>
    rintro s hl ⟨e, he, rfl⟩ hbn
    have hs : e.p ∈ turnedL a b := by rw [mem_turned ha.ordP hb.ordP, hbn, atP_mem ha.ordP he]; simp
    cases hd : dmark b e.p with
    | some m =>
      have h1 := diff_base ha hb hs hd
      have h2 := atP_some h1
      have h3 : m.k = 3 := Classical.byContradiction fun hk => by
        have := (diff_says ha hb h1).2 hk
        rw [hbn] at this; cases this
      exact hides_iff.2 ⟨m, h2.1, by omega, .inl h2.2⟩
    | none =>
      have hu : ¬ upCodeL b e.p = 0 := fun h => by
        have := (dmark_iff hb).2 h
        rw [hd] at this; cases this
      rcases ha.par he with hr | ⟨f, hf, hfp, hfd⟩
      · exact absurd ((upCode_iff hb.ordP).2 (.inl hr)) hu
      · have hp := ha.pth he
        have hne : upL e.p ≠ [47] := fun h => hu ((upCode_iff hb.ordP).2 (.inl h))
        have hlen := up_len hp hne
        have hund : underL e.p f.p = true := by rw [hfp]; exact up_under hp
        cases hc : atP PE.p b f.p with
        | none => exact hides_down (ih f.p (by rw [hfp]; omega) ⟨f, hf, rfl⟩ hc) hund
        | some g =>
          obtain ⟨h1, h2⟩ := atP_some hc
          have hgd : g.d = false := by
            cases h : g.d with
            | false => rfl
            | true => exact absurd ((upCode_iff hb.ordP).2 (.inr ⟨g, h1, h2.trans hfp, h⟩)) hu
          have hft : f.p ∈ turnedL a b := by
            rw [mem_turned ha.ordP hb.ordP, hc, atP_mem ha.ordP hf]
            intro h
            injection h with h
            subst h
            rw [hfd] at hgd; cases hgd
          have hdm : dmark b f.p = some ⟨f.p, 1, g.x⟩ := by
            unfold dmark
            rw [getL_at, hc]
            simp [hgd]
          exact hides_iff.2 ⟨_, (atP_some (diff_base ha hb hft hdm)).1, by simp, .inr hund⟩
/-- The difference makes the one tree of the other one. -/
theorem diff_on (ha : TOk a) (hb : TOk b) : onL (diffL a b) a = b := by
  have ho := diff_ord ha hb
  refine ord_ext_at (on_ord _ ha.ordP) hb.ordP fun q => ?_
  rw [at_on ho ha.ordP]
  cases hc : atP PM.p (diffL a b) q with
  | some m =>
    have h1 := diff_says ha hb hc
    show (if m.k = 3 then none else some (toE m)) = _
    by_cases hk : m.k = 3
    · rw [if_pos hk, h1.1 hk]
    · rw [if_neg hk, h1.2 hk]
  | none =>
    show (if hidesL (diffL a b) q = true then none else atP PE.p a q) = _
    by_cases hh : hidesL (diffL a b) q = true
    · rw [if_pos hh]
      obtain ⟨m, hm, hk, h1 | h1⟩ := hides_iff.1 hh
      · exact absurd h1 (atP_none.1 hc m hm)
      · symm
        rw [atP_none]
        rintro e he rfl
        have h2 := diff_says ha hb (atP_mem ho hm)
        have hmp : pathOkL m.p = true := by
          rcases diff_look ha hb (atP_mem ho hm) with ⟨h, _⟩ | ⟨_, _, h, _⟩
          · exact turned_path ha hb h
          · exact h
        obtain ⟨f, hf, hfp, hfd⟩ := hb.anc he hmp h1
        have h3 : atP PE.p b m.p = some f := (atP_iff hb.ordP).2 ⟨hf, hfp⟩
        rcases diff_kind ha hb hm with hk1 | hk1 | hk1
        · have := h2.2 (by omega)
          rw [h3] at this
          injection this with this
          rw [this] at hfd
          simp [toE, dirM, hk1] at hfd
        · exact hk hk1
        · have := h2.1 hk1
          rw [h3] at this; cases this
    · rw [if_neg hh]
      refine Classical.byContradiction fun hne => hh ?_
      have hq : q ∈ turnedL a b := (mem_turned ha.ordP hb.ordP q).2 hne
      have hbn : atP PE.p b q = none := by
        cases h : atP PE.p b q with
        | none => rfl
        | some e =>
          have : dmark b q = some (if e.d then ⟨q, 2, []⟩ else ⟨q, 1, e.x⟩) := by unfold dmark; rw [getL_at, h]
          rw [diff_base ha hb hq this] at hc; cases hc
      have han : ∃ e ∈ a, e.p = q := by
        cases h : atP PE.p a q with
        | none => rw [h, hbn] at hne; exact absurd rfl hne
        | some e => exact ⟨e, atP_some h⟩
      exact diff_hide ha hb _ q (Nat.le_refl _) han hbn
theorem diff_up (ha : TOk a) (hb : TOk b) {m : PM} (hm : m ∈ diffL a b) {s : Bs} (hs : pathOkL s = true) (hu : underL m.p s = true) : atP PM.p (diffL a b) s = some (updm s) := by
  rcases diff_look ha hb (atP_mem (diff_ord ha hb) hm) with ⟨h1, h2⟩ | ⟨_, _, _, _, q, hq, h3, h4⟩
  · exact diff_anc ha hb h1 (by rw [h2]; rfl) hs hu
  · exact diff_anc ha hb hq h3 hs (under_trans h4 hu)
theorem diff_path (ha : TOk a) (hb : TOk b) {m : PM} (hm : m ∈ diffL a b) : pathOkL m.p = true := by
  rcases diff_look ha hb (atP_mem (diff_ord ha hb) hm) with ⟨h1, _⟩ | ⟨_, _, h, _⟩
  · exact turned_path ha hb h1
  · exact h
theorem ord_sub_len : ∀ {s t : List Bs}, OrdP id s → OrdP id t → (∀ x ∈ s, x ∈ t) → s.length ≤ t.length := by
  intro s t
  induction t generalizing s with
  | nil =>
    intro _ _ h
    cases s with
    | nil => simp
    | cons x r => have := h x (by simp); cases this
  | cons y t ih =>
    intro hs ht h
    cases s with
    | nil => simp
    | cons x r =>
      rw [ordP_cons] at hs ht
      have hr : ∀ z ∈ r, z ∈ t := fun z hz => by
        rcases List.mem_cons.1 (h z (by simp [hz])) with h1 | h1
        · subst h1
          rcases List.mem_cons.1 (h x (by simp)) with h2 | h2
          · have := hs.1 z hz; rw [h2] at this; change bytesLess z z = true at this; rw [less_irrefl] at this; cases this
          · have := less_trans (hs.1 z hz) (ht.1 x h2); change bytesLess x x = true at this; rw [less_irrefl] at this; cases this
        · exact h1
      have := ih hs.2 ht.2 hr
      simp only [List.length_cons]; omega
theorem ord_mapM {t : List PM} (h : OrdP PM.p t) : OrdP id (t.map PM.p) := by
  unfold OrdP at *
  rw [List.pairwise_map]; exact h
theorem put_len_le {α : Type} {f : α → Bs} (a : List α) (y : α) : (putP f a y).length ≤ a.length + 1 := by
  induction a with
  | nil => simp [putP]
  | cons x a ih =>
    unfold putP
    split
    · simp only [List.length_cons]; omega
    · split <;> simp
theorem fold_len_le {α : Type} {f : α → Bs} (b a : List α) : (b.foldl (putP f) a).length ≤ a.length + b.length := by
  induction b generalizing a with
  | nil => simp
  | cons y b ih =>
    rw [List.foldl_cons]
    have h1 := ih (putP f a y)
    have h2 := put_len_le (f := f) a y
    simp only [List.length_cons]; omega
theorem diff_lok (ha : TOk a) (hb : TOk b) : LOk (diffL a b) := by
  have ho := diff_ord ha hb
  refine ⟨?_, fun m hm => ?_, ho, fun m hm => ?_, fun m hm _ => ?_⟩
  · have h1 := ord_fold (f := PE.p) (u := b) ha.ordP
    have h2 : ((diffL a b).map PM.p).length ≤ ((b.foldl (putP PE.p) a).map PE.p).length := by
      refine ord_sub_len (ord_mapM ho) (ord_map h1) fun s hs => ?_
      obtain ⟨m, hm, rfl⟩ := List.mem_map.1 hs
      have hin : ∃ e, atP PE.p (b.foldl (putP PE.p) a) m.p = some e := by
        rw [atP_fold hb.ordP.dis ha.ordP]
        cases hc : atP PE.p b m.p with
        | some e => exact ⟨e, rfl⟩
        | none =>
          rcases diff_look ha hb (atP_mem ho hm) with ⟨h3, _⟩ | ⟨_, _, _, ⟨f, hf, hfp, _⟩, _⟩
          · rw [mem_turned ha.ordP hb.ordP, hc] at h3
            cases hd : atP PE.p a m.p with
            | some e => exact ⟨e, rfl⟩
            | none => rw [hd] at h3; exact absurd rfl h3
          · exact absurd hfp (atP_none.1 hc f hf)
      obtain ⟨e, he⟩ := hin
      obtain ⟨h3, h4⟩ := atP_some he
      exact List.mem_map.2 ⟨e, h3, h4⟩
    rw [List.length_map, List.length_map] at h2
    have h3 := fold_len_le (f := PE.p) b a
    have := ha.most
    have := hb.most
    omega
  · have hp := diff_path ha hb hm
    rcases diff_look ha hb (atP_mem ho hm) with ⟨_, h1⟩ | ⟨_, h1, _⟩
    · unfold dmark at h1
      cases hg : getL b m.p with
      | some e =>
        rw [hg] at h1
        have h1 : (if e.d = true then PM.mk m.p 2 [] else ⟨m.p, 1, e.x⟩) = m := by injection h1
        have hx := hb.dat (hb.get.1 hg).1
        rw [← h1]
        split
        · simp [markOkL, hp, show dataOkL [] = true by decide]
        · simp [markOkL, hp, hx]
      | none =>
        rw [hg] at h1
        have h1 : (if upCodeL b m.p = 0 then some (PM.mk m.p 3 []) else none) = some m := h1
        split at h1
        · injection h1 with h1
          rw [← h1]
          simp [markOkL, hp, show dataOkL [] = true by decide]
        · cases h1
    · rw [h1]
      simp [markOkL, hp, show dataOkL [] = true by decide]
  · rw [upM_of ho]
    have hp := diff_path ha hb hm
    by_cases hr : upL m.p = [47]
    · exact .inl hr
    · have h1 := diff_up ha hb hm (up_path hp hr) (up_under hp)
      obtain ⟨h2, h3⟩ := atP_some h1
      exact .inr ⟨_, h2, h3, rfl⟩
  · cases hbb : bareL (diffL a b) m.p with
    | false => rfl
    | true =>
      obtain ⟨y, hy, hk, _⟩ := bare_iff.1 hbb
      rcases diff_kind ha hb hy with h | h | h <;> omega
theorem diff_self (ha : TOk a) : diffL a a = [] := by unfold diffL; rw [turned_self ha.ordP]; rfl
theorem diff_nil (ha : TOk a) (hb : TOk b) : diffL a b = [] ↔ a = b := by
  constructor
  · intro h
    have := diff_on ha hb
    rw [h, on_nil ha.ordP] at this
    exact this
  · rintro rfl; exact diff_self ha
/-- A mark that others are below is of a directory. -/
theorem diff_above (ha : TOk a) (hb : TOk b) {m n : PM} (hm : m ∈ diffL a b) (hn : n ∈ diffL a b) (hu : underL n.p m.p = true) : m.k = 2 := by
  have h1 := diff_up ha hb hn (diff_path ha hb hm) hu
  rw [atP_mem (diff_ord ha hb) hm] at h1
  injection h1 with h1
  rw [h1]
/-- Without a mark that no other is below it is another tree. -/
theorem diff_less (ha : TOk a) (hb : TOk b) {m : PM} (hm : m ∈ diffL a b) (hn : ∀ n ∈ diffL a b, underL n.p m.p = false) {less : List PM} (ho : OrdP PM.p less) (hl : ∀ n, n ∈ less ↔ n ∈ diffL a b ∧ n ≠ m) : onL less a ≠ b := by
  have hO := diff_ord ha hb
  intro he
  have h1 : m.p ∈ turnedL a b := by
    rcases diff_look ha hb (atP_mem hO hm) with ⟨h, _⟩ | ⟨_, _, _, _, q, hq, h3, h4⟩
    · exact h
    · obtain ⟨x, hx⟩ := Option.isSome_iff_exists.1 h3
      obtain ⟨h5, h6⟩ := atP_some (diff_base ha hb hq hx)
      have := hn x h5
      rw [h6, h4] at this; cases this
  rw [mem_turned ha.ordP hb.ordP] at h1
  have h2 := at_on ho ha.ordP m.p
  have h3 : atP PM.p less m.p = none := by
    rw [atP_none]
    intro n hnn hp
    obtain ⟨h4, h5⟩ := (hl n).1 hnn
    exact h5 ((diff_lok ha hb).same h4 hm hp)
  have h4 : hidesL less m.p = false := by
    cases hh : hidesL less m.p with
    | false => rfl
    | true =>
      obtain ⟨n, hnn, hk, h5 | h5⟩ := hides_iff.1 hh
      · exact absurd h5 (atP_none.1 h3 n hnn)
      · exact absurd (diff_above ha hb ((hl n).1 hnn).1 hm h5) hk
  rw [h3, he] at h2
  have h2 : atP PE.p b m.p = if hidesL less m.p = true then none else atP PE.p a m.p := h2
  rw [h4] at h2
  exact h1 h2.symm
theorem diff_count (ha : TOk a) (hb : TOk b) : ((diffL a b).filter fun m => decide (m.p ∈ turnedL a b)).length = ((turnedL a b).filter fun q => decide (upCodeL b q = 0)).length := by
  have ho := diff_ord ha hb
  have h1 : ((diffL a b).filter fun m => decide (m.p ∈ turnedL a b)).map PM.p = (turnedL a b).filter fun q => decide (upCodeL b q = 0) := by
    refine ord_ext (ord_mapM (ho.filter _)) ((ord_turned ha.ordP).filter _) fun s => ?_
    rw [List.mem_map, List.mem_filter]
    simp only [decide_eq_true_eq]
    constructor
    · rintro ⟨m, hm, rfl⟩
      obtain ⟨h2, h3⟩ := List.mem_filter.1 hm
      simp only [decide_eq_true_eq] at h3
      refine ⟨h3, ?_⟩
      rcases diff_look ha hb (atP_mem ho h2) with ⟨_, h4⟩ | ⟨h4, _⟩
      · exact (dmark_iff hb).1 (by rw [h4]; rfl)
      · exact absurd h3 h4
    · rintro ⟨h2, h3⟩
      obtain ⟨m, hm⟩ := Option.isSome_iff_exists.1 ((dmark_iff hb).2 h3)
      obtain ⟨h4, h5⟩ := atP_some (diff_base ha hb h2 hm)
      exact ⟨m, List.mem_filter.2 ⟨h4, by rw [h5]; simpa using h2⟩, h5⟩
  rw [← h1, List.length_map]
theorem diff_other (ha : TOk a) (hb : TOk b) {m : PM} (hm : m ∈ diffL a b) (h : m.p ∉ turnedL a b) : m.k = 2 ∧ ∃ q ∈ turnedL a b, underL q m.p = true := by
  rcases diff_look ha hb (atP_mem (diff_ord ha hb) hm) with ⟨h1, _⟩ | ⟨_, h1, _, _, q, hq, _, h4⟩
  · exact absurd h1 h
  · exact ⟨by rw [h1], q, hq, h4⟩
end
end Go.Proofs.YtkhbkhibjflgmaaDoor
