/- Plain mathematics of moves in a tree. No program in sight. Conditions: each theorem's own. -/
import Derived.Test.YtkhbkhibjflgmaaDoorPlT
namespace Go.Proofs.YtkhbkhibjflgmaaDoor
open Go.Op
theorem moveOk_paths {s f t : Bs} (h : moveOkL s f t = true) : pathOkL s = true ∧ pathOkL f = true ∧ pathOkL t = true ∧ pathOkL (moveL s f t) = true := by
  have h0 := h
  simp only [moveOkL, Bool.and_eq_true] at h
  refine ⟨h.1.1.1, h.1.1.2, h.1.2, ?_⟩
  rw [moveL, if_pos h0]; exact h.2
theorem mv_in {s f t : Bs} (h : moveOkL s f t = true) (hm : s = f ∨ underL s f = true) : moveL s f t = t ∨ underL (moveL s f t) t = true := by
  have h1 := law_move h hm
  by_cases hs : s = f
  · exact .inl (h1.2.2.1.2 hs)
  · exact .inr (h1.2.2.2 hs).1
theorem mv_self {f t : Bs} (h : moveOkL f f t = true) : moveL f f t = t := (law_move h (.inl rfl)).2.2.1.2 rfl
theorem mv_out {s f t : Bs} (h : moveOkL s f t = true) (hm : ¬ (s = f ∨ underL s f = true)) {u : Bs} (hu : ¬ (s = t ∨ underL s t = true)) (h' : u = f) : moveOkL s t u = true ∧ moveL s t u = s := by
  subst h'
  have hp := moveOk_paths h
  have hok : moveOkL s t u = true := by simp [moveOkL, hp.1, hp.2.1, hp.2.2.1, moved, hu]
  exact ⟨hok, move_stay hok hu⟩
theorem up_moved {s f t : Bs} (h : moveOkL s f t = true) (hu : underL s f = true) : (upL s = f ∨ underL (upL s) f = true) ∧ upL (moveL s f t) = moveL (upL s) f t := by
  have hp := moveOk_paths h
  obtain ⟨S, F, T, h1, h2, h3, h4, h5, h6, rfl, rfl, rfl⟩ := move_cases hp.1 hp.2.1 hp.2.2.1
  obtain ⟨r, rfl⟩ := (from_iff h1 h2 h3 h4).1 (.inr hu)
  have hr : r ≠ [] := by
    rintro rfl
    rw [List.append_nil, not_under_self] at hu; cases hu
  obtain ⟨i, n, rfl⟩ := ns_split hr
  have hN := (moveOk_app h1 h3 h4 h5 h6).1 h
  have e : moveL (flat (F ++ (i ++ [n]))) (flat F) (flat T) = flat (T ++ (i ++ [n])) := by rw [moveL, if_pos h, moved_app h1 h3 h4]
  have hFi : NS (F ++ i) := by rw [← List.append_assoc] at h1; exact h1.of_append.1
  have hTi : NS (T ++ i) := by rw [← List.append_assoc] at hN; exact hN.of_append.1
  have u1 : upL (flat (F ++ (i ++ [n]))) = flat (F ++ i) := by
    rw [up_flat h1 (by simp [h4]), ← List.append_assoc, List.dropLast_concat, encP, if_neg (by simp [h4])]
  have u2 : upL (flat (T ++ (i ++ [n]))) = flat (T ++ i) := by
    rw [up_flat hN (by simp [h6]), ← List.append_assoc, List.dropLast_concat, encP, if_neg (by simp [h6])]
  have hok : moveOkL (flat (F ++ i)) (flat F) (flat T) = true := (moveOk_app hFi h3 h4 h5 h6).2 hTi
  rw [e, u1, u2]
  refine ⟨(from_iff hFi (by simp [h4]) h3 h4).2 ⟨i, rfl⟩, ?_⟩
  rw [moveL, if_pos hok, moved_app hFi h3 h4]
/-- A move that can be done. -/
structure MV (t : List PE) (q r : Bs) : Prop where
  tok : TOk t
  pq : pathOkL q = true
  pr : pathOkL r = true
  src : ∃ e ∈ t, e.p = q
  up : upCodeL t r = 0
  free : ∀ e ∈ t, e.p ≠ r
  nun : underL r q = false
  all : ∀ e ∈ t, moveOkL e.p q r = true
theorem mv_of {t : List PE} {q r : Bs} (h : TOk t) (hq : pathOkL q = true) (hr : pathOkL r = true) (hc : moveC t q r = 0) : MV t q r := by
  obtain ⟨⟨e, he⟩, h1, h2, h3, h4⟩ := moveC_0 hc
  exact ⟨h, hq, hr, ⟨e, h.get.1 he⟩, h1, getL_none.1 h2, h3, h4⟩
theorem mv_code {t : List PE} {q r : Bs} (m : MV t q r) : moveC t q r = 0 := by
  obtain ⟨e, he, hp⟩ := m.src
  have h1 : getL t q = some e := m.tok.get.2 ⟨he, hp⟩
  have h2 : getL t r = none := getL_none.2 m.free
  unfold moveC
  rw [if_neg (by rw [h1]; simp), if_neg (by simp [m.up]), if_neg (by rw [h2]; simp), if_neg (by rw [m.nun]; simp), if_pos (List.all_eq_true.2 m.all)]
abbrev mvL (t : List PE) (q r : Bs) : List PE := (t.map (movedE q r)).foldl (putP PE.p) []
section
variable {t : List PE} {q r : Bs}
theorem MV.ne (m : MV t q r) : q ≠ r := by
  rintro rfl
  obtain ⟨e, he, hp⟩ := m.src
  exact m.free e he hp
theorem MV.no_under (m : MV t q r) {e : PE} (he : e ∈ t) : underL e.p r = false := by
  cases hu : underL e.p r with
  | false => rfl
  | true =>
    obtain ⟨f, hf, hp, _⟩ := m.tok.anc he m.pr hu
    exact absurd hp (m.free f hf)
theorem MV.out (m : MV t q r) {e : PE} (he : e ∈ t) : ¬ (e.p = r ∨ underL e.p r = true) := by
  rintro (h | h)
  · exact m.free e he h
  · rw [m.no_under he] at h; cases h
theorem MV.inj (m : MV t q r) {e f : PE} (he : e ∈ t) (hf : f ∈ t) (h : moveL e.p q r = moveL f.p q r) : e = f := by
  by_cases h1 : e.p = q ∨ underL e.p q = true
  · by_cases h2 : f.p = q ∨ underL f.p q = true
    · have a := (law_move (m.all e he) h1).2.1
      have b := (law_move (m.all f hf) h2).2.1
      rw [h, b] at a
      exact m.tok.same he hf a.symm
    · have a := mv_in (m.all e he) h1
      rw [h, move_stay (m.all f hf) h2] at a
      exact absurd a (m.out hf)
  · by_cases h2 : f.p = q ∨ underL f.p q = true
    · have a := mv_in (m.all f hf) h2
      rw [← h, move_stay (m.all e he) h1] at a
      exact absurd a (m.out he)
    · rw [move_stay (m.all e he) h1, move_stay (m.all f hf) h2] at h
      exact m.tok.same he hf h
theorem MV.dis (m : MV t q r) : DisP PE.p (t.map (movedE q r)) := by
  unfold DisP
  rw [List.pairwise_map]
  refine List.Pairwise.imp_of_mem (fun {a b} ha hb hab h => ?_) m.tok.ordP
  have := m.inj ha hb h
  subst this
  rw [less_irrefl] at hab; cases hab
theorem MV.mem (m : MV t q r) {x : PE} : x ∈ mvL t q r ↔ ∃ e ∈ t, movedE q r e = x := by
  rw [mem_fold m.dis ord_nil]; simp
theorem mv_ord (t : List PE) (q r : Bs) : OrdP PE.p (mvL t q r) := ord_fold ord_nil
theorem fold_len {α : Type} {f : α → Bs} {u : List α} (hd : DisP f u) : ∀ {s : List α}, OrdP f s → (∀ y ∈ u, ∀ x ∈ s, f y ≠ f x) → (u.foldl (putP f) s).length = s.length + u.length := by
  induction u with
  | nil => intro s _ _; rfl
  | cons a r ih =>
    intro s h hne
    unfold DisP at hd
    rw [List.pairwise_cons] at hd
    have hn : atP f s (f a) = none := atP_none.2 fun e he h2 => hne a (by simp) e he h2.symm
    rw [List.foldl_cons, ih hd.2 (ord_putP h a) (fun y hy x hx => ?_), len_putP h, hn]
    · simp; omega
    · rcases (mem_putP h).1 hx with rfl | ⟨hx, _⟩
      · exact fun h => hd.1 y hy h.symm
      · exact hne y (by simp [hy]) x hx
theorem MV.len (m : MV t q r) : (mvL t q r).length = t.length := by
  rw [mvL, fold_len m.dis ord_nil (fun y _ x hx => by cases hx)]; simp
theorem MV.tok' (m : MV t q r) : TOk (mvL t q r) := by
  refine ⟨by rw [m.len]; exact m.tok.most, fun x hx => ?_, mv_ord t q r, fun x hx => ?_⟩
  · obtain ⟨e, he, rfl⟩ := m.mem.1 hx
    have h1 := m.tok.ent e he
    have h2 := (moveOk_paths (m.all e he)).2.2.2
    simp only [entOkL, Bool.and_eq_true] at h1 ⊢
    exact ⟨⟨h2, h1.1.2⟩, h1.2⟩
  · obtain ⟨e, he, rfl⟩ := m.mem.1 hx
    rw [upCode_iff (mv_ord t q r)]
    show upL (moveL e.p q r) = [47] ∨ ∃ f ∈ mvL t q r, f.p = upL (moveL e.p q r) ∧ f.d = true
    by_cases h1 : e.p = q ∨ underL e.p q = true
    · by_cases h2 : e.p = q
      · have h3 := m.all e he
        rw [h2] at h3
        rw [h2, mv_self h3]
        rcases (upCode_iff m.tok.ordP).1 m.up with h4 | ⟨f, hf, hfp, hfd⟩
        · exact .inl h4
        · refine .inr ⟨movedE q r f, m.mem.2 ⟨f, hf, rfl⟩, ?_, hfd⟩
          show moveL f.p q r = upL r
          rw [move_stay (m.all f hf), hfp]
          rintro (h5 | h5)
          · have := up_under m.pr
            rw [← hfp, h5, m.nun] at this; cases this
          · have := under_trans (up_under m.pr) (hfp ▸ h5)
            rw [m.nun] at this; cases this
      · have h3 : underL e.p q = true := h1.resolve_left h2
        obtain ⟨h4, h5⟩ := up_moved (m.all e he) h3
        rw [h5]
        rcases m.tok.par he with h6 | ⟨f, hf, hfp, hfd⟩
        · exfalso
          rw [h6] at h4
          rcases h4 with h7 | h7
          · have := m.pq; rw [← h7, root_no] at this; cases this
          · have := under_path h7; rw [root_no] at this; cases this
        · exact .inr ⟨movedE q r f, m.mem.2 ⟨f, hf, rfl⟩, by show moveL f.p q r = _; rw [hfp], hfd⟩
    · rw [move_stay (m.all e he) h1]
      rcases m.tok.par he with h6 | ⟨f, hf, hfp, hfd⟩
      · exact .inl h6
      · refine .inr ⟨movedE q r f, m.mem.2 ⟨f, hf, rfl⟩, ?_, hfd⟩
        show moveL f.p q r = upL e.p
        rw [move_stay (m.all f hf), hfp]
        rintro (h5 | h5)
        · exact h1 (.inr (by have := up_under (m.tok.pth he); rw [← hfp, h5] at this; exact this))
        · exact h1 (.inr (under_trans (up_under (m.tok.pth he)) (hfp ▸ h5)))
theorem MV.back_e (m : MV t q r) {e : PE} (he : e ∈ t) : moveOkL (moveL e.p q r) r q = true ∧ movedE r q (movedE q r e) = e := by
  by_cases h1 : e.p = q ∨ underL e.p q = true
  · have h2 := law_move (m.all e he) h1
    refine ⟨h2.1, ?_⟩
    obtain ⟨p, d, x⟩ := e
    show PE.mk (moveL (moveL p q r) r q) d x = _
    rw [h2.2.1]
  · have h2 := move_stay (m.all e he) h1
    have h3 := mv_out (m.all e he) h1 (m.out he) rfl
    rw [h2]
    refine ⟨h3.1, ?_⟩
    obtain ⟨p, d, x⟩ := e
    show PE.mk (moveL (moveL p q r) r q) d x = _
    rw [h2, h3.2]
theorem MV.gone (m : MV t q r) {x : PE} (hx : x ∈ mvL t q r) : x.p ≠ q := by
  obtain ⟨e, he, rfl⟩ := m.mem.1 hx
  show moveL e.p q r ≠ q
  intro h
  by_cases h1 : e.p = q ∨ underL e.p q = true
  · rcases mv_in (m.all e he) h1 with h2 | h2
    · exact m.ne (h.symm.trans h2)
    · rw [h] at h2
      obtain ⟨e0, h0, hp0⟩ := m.src
      have := m.no_under h0
      rw [hp0, h2] at this; cases this
  · rw [move_stay (m.all e he) h1] at h
    exact h1 (.inl h)
theorem MV.back (m : MV t q r) : MV (mvL t q r) r q := by
  refine ⟨m.tok', m.pr, m.pq, ?_, ?_, fun x hx => m.gone hx, ?_, fun x hx => ?_⟩
  · obtain ⟨e, he, hp⟩ := m.src
    refine ⟨movedE q r e, m.mem.2 ⟨e, he, rfl⟩, ?_⟩
    show moveL e.p q r = r
    have h3 := m.all e he
    rw [hp] at h3 ⊢
    exact mv_self h3
  · rw [upCode_iff (mv_ord t q r)]
    obtain ⟨e, he, hp⟩ := m.src
    rcases m.tok.par he with h6 | ⟨f, hf, hfp, hfd⟩
    · exact .inl (hp ▸ h6)
    · refine .inr ⟨movedE q r f, m.mem.2 ⟨f, hf, rfl⟩, ?_, hfd⟩
      show moveL f.p q r = upL q
      rw [hp] at hfp
      rw [move_stay (m.all f hf), hfp]
      rintro (h5 | h5)
      · exact up_ne m.pq (hfp ▸ h5)
      · have := under_anti (up_under m.pq)
        rw [← hfp, h5] at this; cases this
  · obtain ⟨e, he, hp⟩ := m.src
    have := m.no_under he
    rw [hp] at this; exact this
  · obtain ⟨e, he, rfl⟩ := m.mem.1 hx
    exact (m.back_e he).1
theorem MV.back_eq (m : MV t q r) : mvL (mvL t q r) r q = t := by
  refine ord_ext (mv_ord _ _ _) m.tok.ordP fun x => ?_
  rw [m.back.mem]
  constructor
  · rintro ⟨y, hy, rfl⟩
    obtain ⟨e, he, rfl⟩ := m.mem.1 hy
    rw [(m.back_e he).2]; exact he
  · intro hx
    exact ⟨movedE q r x, m.mem.2 ⟨x, hx, rfl⟩, (m.back_e hx).2⟩
/-- By way of another place. -/
theorem MV.via {v : Bs} (m : MV t q r) (n : MV t q v) (hne : r ≠ v) : MV (mvL t q v) v r ∧ mvL (mvL t q v) v r = mvL t q r := by
  have hruv : underL r v = false := by
    cases hu : underL r v with
    | false => rfl
    | true =>
      exfalso
      have h1 := under_up (b := v) m.pr
      rw [hu] at h1
      simp only [Bool.true_eq, Bool.or_eq_true, beq_iff_eq] at h1
      rcases (upCode_iff m.tok.ordP).1 m.up with h2 | ⟨f, hf, hfp, _⟩
      · rw [h2] at h1
        rcases h1 with h3 | h3
        · have := n.pr; rw [h3, root_no] at this; cases this
        · have := under_path h3; rw [root_no] at this; cases this
      · rw [← hfp] at h1
        rcases h1 with h3 | h3
        · exact n.free f hf h3.symm
        · rw [n.no_under hf] at h3; cases h3
  have hall : ∀ e ∈ t, moveOkL (moveL e.p q v) v r = true ∧ moveL (moveL e.p q v) v r = moveL e.p q r := fun e he => by
    by_cases h1 : e.p = q ∨ underL e.p q = true
    · have h2 := law_via (n.all e he) m.pr h1
      exact ⟨h2.1.trans (m.all e he), h2.2⟩
    · rw [move_stay (n.all e he) h1, move_stay (m.all e he) h1]
      have hp := moveOk_paths (m.all e he)
      have hok : moveOkL e.p v r = true := by simp [moveOkL, hp.1, n.pr, m.pr, moved, n.out he]
      exact ⟨hok, move_stay hok (n.out he)⟩
  have hM : MV (mvL t q v) v r := by
    refine ⟨n.tok', n.pr, m.pr, n.back.src.elim fun _ _ => ?_, ?_, fun x hx hxr => ?_, hruv, fun x hx => ?_⟩
    · obtain ⟨e, he, hp⟩ := n.src
      refine ⟨movedE q v e, n.mem.2 ⟨e, he, rfl⟩, ?_⟩
      show moveL e.p q v = v
      have h3 := n.all e he
      rw [hp] at h3 ⊢
      exact mv_self h3
    · rw [upCode_iff (mv_ord _ _ _)]
      rcases (upCode_iff m.tok.ordP).1 m.up with h6 | ⟨f, hf, hfp, hfd⟩
      · exact .inl h6
      · refine .inr ⟨movedE q v f, n.mem.2 ⟨f, hf, rfl⟩, ?_, hfd⟩
        show moveL f.p q v = upL r
        rw [move_stay (n.all f hf), hfp]
        rintro (h5 | h5)
        · have := up_under m.pr
          rw [← hfp, h5, m.nun] at this; cases this
        · have := under_trans (up_under m.pr) (hfp ▸ h5)
          rw [m.nun] at this; cases this
    · obtain ⟨e, he, rfl⟩ := n.mem.1 hx
      have hxr : moveL e.p q v = r := hxr
      by_cases h1 : e.p = q ∨ underL e.p q = true
      · rcases mv_in (n.all e he) h1 with h2 | h2
        · exact hne (hxr.symm.trans h2)
        · rw [hxr, hruv] at h2; cases h2
      · rw [move_stay (n.all e he) h1] at hxr
        exact m.free e he hxr
    · obtain ⟨e, he, rfl⟩ := n.mem.1 hx
      exact (hall e he).1
  refine ⟨hM, ord_ext (mv_ord _ _ _) (mv_ord _ _ _) fun x => ?_⟩
  rw [hM.mem, m.mem]
  constructor
  · rintro ⟨y, hy, rfl⟩
    obtain ⟨e, he, rfl⟩ := n.mem.1 hy
    refine ⟨e, he, ?_⟩
    obtain ⟨p, d, z⟩ := e
    show PE.mk (moveL p q r) d z = PE.mk (moveL (moveL p q v) v r) d z
    rw [(hall _ he).2]
  · rintro ⟨e, he, rfl⟩
    refine ⟨movedE q v e, n.mem.2 ⟨e, he, rfl⟩, ?_⟩
    obtain ⟨p, d, z⟩ := e
    show PE.mk (moveL (moveL p q v) v r) d z = PE.mk (moveL p q r) d z
    rw [(hall _ he).2]
end
end Go.Proofs.YtkhbkhibjflgmaaDoor
