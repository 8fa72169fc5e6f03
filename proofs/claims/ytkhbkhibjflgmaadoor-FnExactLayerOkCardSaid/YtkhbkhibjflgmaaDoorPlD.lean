/- Plain mathematics of layers that make one tree of another one. No program in sight. Conditions: each theorem's own. -/
import Derived.Test.YtkhbkhibjflgmaaDoorPlJ
namespace Go.Proofs.YtkhbkhibjflgmaaDoor
open Go.Op
/-- The mark at a path at which the trees differ. -/
def dmark (b : List PE) (q : Bs) : Option PM := match getL b q with
  | some e => some (if e.d then ⟨q, 2, []⟩ else ⟨q, 1, e.x⟩)
  | none => if upCodeL b q = 0 then some ⟨q, 3, []⟩ else none
theorem dmark_p {b : List PE} {q : Bs} {m : PM} (h : dmark b q = some m) : m.p = q := by
  unfold dmark at h
  split at h
  · injection h with h; subst h; split <;> rfl
  · split at h
    · injection h with h; subst h; rfl
    · cases h
abbrev updm (q : Bs) : PM := ⟨q, 2, []⟩
def upsL : Nat → List PM → Bs → List PM
  | 0, l, _ => l
  | n + 1, l, q => if upL q = [47] then l else upsL n (if atP PM.p l (upL q) = none then putP PM.p l (updm (upL q)) else l) (upL q)
def upsR : Nat → List PM → Bs → List PM
  | 0, l, _ => l
  | n + 1, l, q => if upL q = [47] then l else upsR n (if atP PM.p l (upL q) = none then l ++ [updm (upL q)] else l) (upL q)
def upsAt (l : List PM) (q s : Bs) : Option PM := match atP PM.p l s with
  | some m => some m
  | none => if pathOkL s = true ∧ underL q s = true then some (updm s) else none
theorem levels_up {q : Bs} (h : pathOkL q = true) : levelsL q = levelsL (upL q) + 1 := (law_path h).2.2.2
theorem levels_3 (q : Bs) : levelsL q ≤ 3 := by
  cases h : pathOkL q with
  | false => simp [levelsL, h]
  | true =>
    obtain ⟨ns, h1, h2, rfl⟩ := (pathOk_iff q).1 h
    rw [levels_flat h1 h2]; exact h1.1
theorem ups_root {q s : Bs} (h : pathOkL q = true) (hr : upL q = [47]) (hs : pathOkL s = true) : underL q s = false := by
  rw [under_up h, hr]
  simp only [Bool.or_eq_false_iff, beq_eq_false_iff_ne]
  refine ⟨path_ne_root hs, ?_⟩
  cases hu : underL [47] s with
  | false => rfl
  | true => have := under_path hu; rw [root_no] at this; cases this
theorem upsL_at (n : Nat) : ∀ (l : List PM) (q : Bs), OrdP PM.p l → pathOkL q = true → levelsL q ≤ n → OrdP PM.p (upsL n l q) ∧ ∀ s, atP PM.p (upsL n l q) s = upsAt l q s := by
  induction n with
  | zero => intro l q _ hq hn; have := levels_up hq; omega
  | succ n ih =>
    intro l q hl hq hn
    rw [upsL]
    by_cases hr : upL q = [47]
    · rw [if_pos hr]
      refine ⟨hl, fun s => ?_⟩
      unfold upsAt
      cases hc : atP PM.p l s with
      | some m => rfl
      | none =>
        show none = if _ then _ else _
        rw [if_neg]
        rintro ⟨h1, h2⟩
        rw [ups_root hq hr h1] at h2; cases h2
    · rw [if_neg hr]
      have hup := up_path hq hr
      have hlv := levels_up hq
      have hl' : OrdP PM.p (if atP PM.p l (upL q) = none then putP PM.p l (updm (upL q)) else l) := by
        split
        · exact ord_putP hl _
        · exact hl
      obtain ⟨h1, h2⟩ := ih _ (upL q) hl' hup (by omega)
      refine ⟨h1, fun s => ?_⟩
      rw [h2]
      unfold upsAt
      have hu := under_up (b := s) hq
      by_cases hn0 : atP PM.p l (upL q) = none
      · rw [if_pos hn0, atP_putP hl]
        by_cases hs : upL q = s
        · subst hs
          rw [if_pos rfl, hn0]
          exact (if_pos (⟨hup, up_under hq⟩ : pathOkL (upL q) = true ∧ underL q (upL q) = true)).symm
        · rw [if_neg hs, hu]
          have : (s == upL q) = false := by rw [beq_eq_false_iff_ne]; exact Ne.symm hs
          rw [this, Bool.false_or]
      · rw [if_neg hn0]
        cases hc : atP PM.p l s with
        | some m => rfl
        | none =>
          have hs : s ≠ upL q := by rintro rfl; exact hn0 hc
          have : (s == upL q) = false := by rw [beq_eq_false_iff_ne]; exact hs
          rw [hu, this, Bool.false_or]
theorem upsR_at (n : Nat) : ∀ (l : List PM) (q : Bs), DisP PM.p l → pathOkL q = true → levelsL q ≤ n → DisP PM.p (upsR n l q) ∧ ∀ s, atP PM.p (upsR n l q) s = upsAt l q s := by
  induction n with
  | zero => intro l q _ hq hn; have := levels_up hq; omega
  | succ n ih =>
    intro l q hl hq hn
    rw [upsR]
    by_cases hr : upL q = [47]
    · rw [if_pos hr]
      refine ⟨hl, fun s => ?_⟩
      unfold upsAt
      cases hc : atP PM.p l s with
      | some m => rfl
      | none =>
        show none = if _ then _ else _
        rw [if_neg]
        rintro ⟨h1, h2⟩
        rw [ups_root hq hr h1] at h2; cases h2
    · rw [if_neg hr]
      have hup := up_path hq hr
      have hlv := levels_up hq
      have hl' : DisP PM.p (if atP PM.p l (upL q) = none then l ++ [updm (upL q)] else l) := by
        split
        · next hn0 =>
          unfold DisP at *
          rw [List.pairwise_append]
          refine ⟨hl, by simp, fun a ha b hb => ?_⟩
          rw [List.mem_singleton] at hb
          subst hb
          exact atP_none.1 hn0 a ha
        · exact hl
      obtain ⟨h1, h2⟩ := ih _ (upL q) hl' hup (by omega)
      refine ⟨h1, fun s => ?_⟩
      rw [h2]
      unfold upsAt
      have hu := under_up (b := s) hq
      by_cases hn0 : atP PM.p l (upL q) = none
      · rw [if_pos hn0, atP_append]
        cases hc : atP PM.p l s with
        | some m => rfl
        | none =>
          show (match (if upL q = s then some (updm (upL q)) else none) with | some m => some m | none => if _ then _ else _) = if _ then _ else _
          by_cases hs : upL q = s
          · subst hs
            rw [if_pos rfl]
            exact (if_pos (⟨hup, up_under hq⟩ : pathOkL (upL q) = true ∧ underL q (upL q) = true)).symm
          · have : (s == upL q) = false := by rw [beq_eq_false_iff_ne]; exact Ne.symm hs
            rw [if_neg hs, hu, this, Bool.false_or]
      · rw [if_neg hn0]
        cases hc : atP PM.p l s with
        | some m => rfl
        | none =>
          have hs : s ≠ upL q := by rintro rfl; exact hn0 hc
          have : (s == upL q) = false := by rw [beq_eq_false_iff_ne]; exact hs
          rw [hu, this, Bool.false_or]
/-- As the reference makes it. -/
def diffL (a b : List PE) : List PM := (turnedL a b).foldl (fun out q => match dmark b q with
  | some m => upsL 3 (putP PM.p out m) q
  | none => out) []
/-- What the program has before it sorts. -/
def diffRaw (a b : List PE) : List PM := ((turnedL a b).filterMap (dmark b)).foldl (fun out m => upsR 3 out m.p) ((turnedL a b).filterMap (dmark b))
/-- A mark of a path at which the trees differ lies below s. -/
def ancAt (b : List PE) (Q : List Bs) (s : Bs) : Prop := pathOkL s = true ∧ ∃ q ∈ Q, (dmark b q).isSome = true ∧ underL q s = true
def baseAt (b : List PE) (Q : List Bs) (s : Bs) : Option PM := if s ∈ Q then dmark b s else none
open Classical in
noncomputable def diffAt (b : List PE) (Q : List Bs) (s : Bs) : Option PM := match baseAt b Q s with
  | some m => some m
  | none => if ancAt b Q s then some (updm s) else none
theorem diffL_at {a b : List PE} (hQ : ∀ q ∈ turnedL a b, pathOkL q = true) : OrdP PM.p (diffL a b) ∧ ∀ s, atP PM.p (diffL a b) s = diffAt b (turnedL a b) s := by
  have key : ∀ (rest pre : List Bs) (out : List PM), pre ++ rest = turnedL a b → (OrdP PM.p out ∧ ∀ s, atP PM.p out s = diffAt b pre s) →
      OrdP PM.p (rest.foldl (fun out q => match dmark b q with | some m => upsL 3 (putP PM.p out m) q | none => out) out) ∧
      ∀ s, atP PM.p (rest.foldl (fun out q => match dmark b q with | some m => upsL 3 (putP PM.p out m) q | none => out) out) s = diffAt b (turnedL a b) s := by
    intro rest
    induction rest with
    | nil => intro pre out h hi; rw [List.append_nil] at h; rw [← h]; exact hi
    | cons q r ih =>
      intro pre out h hi
      rw [List.foldl_cons]
      have hq : pathOkL q = true := hQ q (by rw [← h]; simp)
      refine ih (pre ++ [q]) _ (by rw [← h]; simp) ?_
      cases hd : dmark b q with
      | none =>
        refine ⟨hi.1, fun s => ?_⟩
        show atP PM.p out s = _
        rw [hi.2]
        have e1 : baseAt b (pre ++ [q]) s = baseAt b pre s := by
          unfold baseAt
          by_cases hs : s ∈ pre
          · rw [if_pos hs, if_pos (by simp [hs])]
          · by_cases hsq : s = q
            · subst hsq; rw [if_neg hs, if_pos (by simp), hd]
            · rw [if_neg hs, if_neg (by simp [hs, hsq])]
        have e2 : ancAt b (pre ++ [q]) s ↔ ancAt b pre s := by
          unfold ancAt
          constructor
          · rintro ⟨h1, p, hp, h2, h3⟩
            rcases List.mem_append.1 hp with h4 | h4
            · exact ⟨h1, p, h4, h2, h3⟩
            · rw [List.mem_singleton] at h4; subst h4; rw [hd] at h2; cases h2
          · rintro ⟨h1, p, hp, h2, h3⟩
            exact ⟨h1, p, by simp [hp], h2, h3⟩
        unfold diffAt
        rw [e1]
        cases baseAt b pre s with
        | some x => rfl
        | none =>
          by_cases h : ancAt b pre s
          · simp only [if_pos h, if_pos (e2.2 h)]
          · simp only [if_neg h, if_neg (fun h' => h (e2.1 h'))]
      | some m =>
        have hmp := dmark_p hd
        obtain ⟨h1, h2⟩ := upsL_at 3 (putP PM.p out m) q (ord_putP hi.1 m) hq (levels_3 q)
        refine ⟨h1, fun s => ?_⟩
        show atP PM.p (upsL 3 (putP PM.p out m) q) s = _
        rw [h2]
        unfold upsAt
        rw [atP_putP hi.1, hmp]
        by_cases hs : q = s
        · subst hs
          rw [if_pos rfl]
          unfold diffAt baseAt
          rw [if_pos (show q ∈ pre ++ [q] by simp), hd]
        · rw [if_neg hs, hi.2]
          have e1 : baseAt b (pre ++ [q]) s = baseAt b pre s := by
            unfold baseAt
            by_cases hs2 : s ∈ pre
            · rw [if_pos hs2, if_pos (by simp [hs2])]
            · rw [if_neg hs2, if_neg (by simp [hs2, Ne.symm hs])]
          unfold diffAt
          rw [e1]
          cases hb : baseAt b pre s with
          | some x => rfl
          | none =>
            by_cases ha : ancAt b pre s
            · have ha' : ancAt b (pre ++ [q]) s := by
                obtain ⟨g1, p, hp, g2, g3⟩ := ha
                exact ⟨g1, p, by simp [hp], g2, g3⟩
              simp only [if_pos ha, if_pos ha']
            · simp only [if_neg ha]
              by_cases hu : pathOkL s = true ∧ underL q s = true
              · have ha' : ancAt b (pre ++ [q]) s := ⟨hu.1, q, by simp, by rw [hd]; rfl, hu.2⟩
                rw [if_pos hu, if_pos ha']
              · have ha' : ¬ ancAt b (pre ++ [q]) s := by
                  rintro ⟨g1, p, hp, g2, g3⟩
                  rcases List.mem_append.1 hp with h4 | h4
                  · exact ha ⟨g1, p, h4, g2, g3⟩
                  · rw [List.mem_singleton] at h4; subst h4; exact hu ⟨g1, g3⟩
                rw [if_neg hu, if_neg ha']
  refine key (turnedL a b) [] [] rfl ⟨ord_nil, fun s => ?_⟩
  unfold diffAt baseAt ancAt
  simp [atP]
theorem base_at {b : List PE} {Q : List Bs} (s : Bs) : atP PM.p (Q.filterMap (dmark b)) s = baseAt b Q s := by
  induction Q with
  | nil => rfl
  | cons q r ih =>
    rw [List.filterMap_cons]
    unfold baseAt at ih ⊢
    cases hd : dmark b q with
    | none =>
      show atP PM.p (r.filterMap (dmark b)) s = _
      rw [ih]
      by_cases hs : s ∈ r
      · rw [if_pos hs, if_pos (by simp [hs])]
      · by_cases hsq : s = q
        · subst hsq; rw [if_neg hs, if_pos (by simp), hd]
        · rw [if_neg hs, if_neg (by simp [hs, hsq])]
    | some m =>
      show atP PM.p (m :: r.filterMap (dmark b)) s = _
      rw [atP, dmark_p hd]
      by_cases hs : q = s
      · subst hs; rw [if_pos rfl, if_pos (by simp), hd]
      · rw [if_neg hs, ih]
        by_cases hs2 : s ∈ r
        · rw [if_pos hs2, if_pos (by simp [hs2])]
        · rw [if_neg hs2, if_neg (by simp [hs2, Ne.symm hs])]
theorem base_dis {b : List PE} {Q : List Bs} (h : OrdP id Q) : DisP PM.p (Q.filterMap (dmark b)) := by
  unfold DisP
  rw [List.pairwise_filterMap]
  refine List.Pairwise.imp (fun {x y} hxy m hm n hn => ?_) h
  rw [dmark_p hm, dmark_p hn]
  exact less_ne hxy
theorem base_some {b : List PE} {Q : List Bs} {m : PM} (h : m ∈ Q.filterMap (dmark b)) : m.p ∈ Q ∧ dmark b m.p = some m := by
  obtain ⟨q, hq, hd⟩ := List.mem_filterMap.1 h
  have := dmark_p hd
  exact ⟨this ▸ hq, this ▸ hd⟩
theorem diffRaw_at {a b : List PE} (ho : OrdP id (turnedL a b)) (hQ : ∀ q ∈ turnedL a b, pathOkL q = true) : DisP PM.p (diffRaw a b) ∧ ∀ s, atP PM.p (diffRaw a b) s = diffAt b (turnedL a b) s := by
  have key : ∀ (rest pre : List PM) (out : List PM), pre ++ rest = (turnedL a b).filterMap (dmark b) →
      (DisP PM.p out ∧ ∀ s, atP PM.p out s = match baseAt b (turnedL a b) s with | some m => some m | none => if pathOkL s = true ∧ (pre.any fun m => underL m.p s) = true then some (updm s) else none) →
      DisP PM.p (rest.foldl (fun out m => upsR 3 out m.p) out) ∧ ∀ s, atP PM.p (rest.foldl (fun out m => upsR 3 out m.p) out) s = match baseAt b (turnedL a b) s with | some m => some m | none => if pathOkL s = true ∧ (((turnedL a b).filterMap (dmark b)).any fun m => underL m.p s) = true then some (updm s) else none := by
    intro rest
    induction rest with
    | nil => intro pre out h hi; rw [List.append_nil] at h; rw [← h]; exact hi
    | cons m r ih =>
      intro pre out h hi
      rw [List.foldl_cons]
      have hm := base_some (b := b) (Q := turnedL a b) (m := m) (by rw [← h]; simp)
      have hq : pathOkL m.p = true := hQ _ hm.1
      refine ih (pre ++ [m]) _ (by rw [← h]; simp) ?_
      obtain ⟨h1, h2⟩ := upsR_at 3 out m.p hi.1 hq (levels_3 _)
      refine ⟨h1, fun s => ?_⟩
      rw [h2]
      unfold upsAt
      rw [hi.2]
      cases hb : baseAt b (turnedL a b) s with
      | some x => rfl
      | none =>
        simp only [List.any_append, List.any_cons, List.any_nil, Bool.or_false, Bool.or_eq_true]
        by_cases h3 : pathOkL s = true ∧ (pre.any fun m => underL m.p s) = true
        · have h5 : pathOkL s = true ∧ ((pre.any fun m => underL m.p s) = true ∨ underL m.p s = true) := ⟨h3.1, .inl h3.2⟩
          simp only [if_pos h3, if_pos h5]
        · by_cases h4 : pathOkL s = true ∧ underL m.p s = true
          · have h5 : pathOkL s = true ∧ ((pre.any fun m => underL m.p s) = true ∨ underL m.p s = true) := ⟨h4.1, .inr h4.2⟩
            simp only [if_neg h3, if_pos h4, if_pos h5]
          · have h5 : ¬ (pathOkL s = true ∧ ((pre.any fun m => underL m.p s) = true ∨ underL m.p s = true)) := by
              rintro ⟨h5, h6 | h6⟩
              · exact h3 ⟨h5, h6⟩
              · exact h4 ⟨h5, h6⟩
            simp only [if_neg h3, if_neg h4, if_neg h5]
  obtain ⟨h1, h2⟩ := key _ [] _ rfl ⟨base_dis ho, fun s => by
    rw [base_at]
    cases baseAt b (turnedL a b) s with
    | some m => rfl
    | none => simp⟩
  refine ⟨h1, fun s => ?_⟩
  unfold diffRaw
  rw [h2]
  unfold diffAt
  cases baseAt b (turnedL a b) s with
  | some m => rfl
  | none =>
    have e : (pathOkL s = true ∧ (((turnedL a b).filterMap (dmark b)).any fun m => underL m.p s) = true) ↔ ancAt b (turnedL a b) s := by
      unfold ancAt
      rw [List.any_eq_true]
      constructor
      · rintro ⟨h3, m, hm, hu⟩
        have := base_some hm
        exact ⟨h3, m.p, this.1, by rw [this.2]; rfl, hu⟩
      · rintro ⟨h3, q, hq, hs, hu⟩
        obtain ⟨m, hm⟩ := Option.isSome_iff_exists.1 hs
        exact ⟨h3, m, List.mem_filterMap.2 ⟨q, hq, hm⟩, by rw [dmark_p hm]; exact hu⟩
    by_cases h3 : ancAt b (turnedL a b) s
    · simp only [if_pos h3, if_pos (e.2 h3)]
    · simp only [if_neg h3, if_neg (fun h => h3 (e.1 h))]
theorem turned_path {a b : List PE} (ha : TOk a) (hb : TOk b) {q : Bs} (hq : q ∈ turnedL a b) : pathOkL q = true := by
  rw [mem_turned ha.ordP hb.ordP] at hq
  cases h1 : atP PE.p a q with
  | some e => obtain ⟨h2, h3⟩ := atP_some h1; exact h3 ▸ ha.pth h2
  | none =>
    cases h2 : atP PE.p b q with
    | some e => obtain ⟨h3, h4⟩ := atP_some h2; exact h4 ▸ hb.pth h3
    | none => rw [h1, h2] at hq; exact absurd rfl hq
theorem diff_of_raw {a b : List PE} (ha : TOk a) (hb : TOk b) {s : List PM} (hp : s.Perm (diffRaw a b)) (hs : s.Pairwise fun a b => bytesLess b.p a.p = false) : s = diffL a b := by
  have hQ : ∀ q ∈ turnedL a b, pathOkL q = true := fun q hq => turned_path ha hb hq
  obtain ⟨h1, h2⟩ := diffL_at hQ
  obtain ⟨h3, h4⟩ := diffRaw_at (ord_turned ha.ordP) hQ
  rw [fold_of_perm hp h3 hs]
  refine ord_ext_at (ord_fold ord_nil) h1 fun q => ?_
  rw [atP_fold h3 ord_nil, h4, h2]
  cases diffAt b (turnedL a b) q <;> rfl
end Go.Proofs.YtkhbkhibjflgmaaDoor
