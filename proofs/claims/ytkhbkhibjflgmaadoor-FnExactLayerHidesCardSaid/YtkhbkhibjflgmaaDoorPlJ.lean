/- Plain mathematics of joined layers. No program in sight. Conditions: each theorem's own. -/
import Derived.Test.YtkhbkhibjflgmaaDoorPlL
namespace Go.Proofs.YtkhbkhibjflgmaaDoor
open Go.Op
/-- A mark of the upper layer, on what the lower one has there. -/
def bothM (b : List PM) (m : PM) : PM := if m.k = 2 then (match atP PM.p b m.p with
  | some u => if u.k = 2 then m else ⟨m.p, 4, m.x⟩
  | none => m) else m
theorem bothM_p (b : List PM) (m : PM) : (bothM b m).p = m.p := by
  unfold bothM
  split
  · split
    · split <;> rfl
    · rfl
  · rfl
def joinRaw (a b : List PM) : List PM := (b.filter fun m => (atP PM.p a m.p).isNone && !hidesL a m.p) ++ a.map (bothM b)
/-- What becomes of a mark that is below one that is bare. -/
def tidyM (u : List PM) (m : PM) : Option PM := if bareL u m.p = true then (if m.k = 3 then none else if m.k = 4 then some ⟨m.p, 2, m.x⟩ else some m) else some m
def tidyRaw (u : List PM) : List PM := u.filterMap (tidyM u)
/-- The reference's way: what is told so far, what is to come. -/
def tidyL : List PM → List PM → List PM
  | out, [] => out
  | out, m :: r => match tidyM out m with
    | none => tidyL out r
    | some n => tidyL (out ++ [n]) r
def joinLy (a b : List PM) : List PM := tidyL [] ((joinRaw a b).foldl (putP PM.p) [])
theorem tidyM_p {u : List PM} {m n : PM} (h : tidyM u m = some n) : n.p = m.p := by
  unfold tidyM at h
  split at h
  · split at h
    · cases h
    · split at h
      · injection h with h; subst h; rfl
      · injection h with h; subst h; rfl
  · injection h with h; subst h; rfl
theorem tidyM_4 {u : List PM} {m n : PM} (h : tidyM u m = some n) (hk : n.k = 4) : m = n := by
  unfold tidyM at h
  split at h
  · split at h
    · cases h
    · split at h
      · injection h with h; subst h; simp at hk
      · injection h with h
  · injection h with h
theorem join_dis {a b : List PM} (ha : OrdP PM.p a) (hb : OrdP PM.p b) : DisP PM.p (joinRaw a b) := by
  unfold joinRaw DisP
  rw [List.pairwise_append]
  refine ⟨dis_filter hb.dis _, map_dis (f := PM.p) (bothM b) (bothM_p b) ha.dis, fun x hx y hy => ?_⟩
  obtain ⟨m, hm, rfl⟩ := List.mem_map.1 hy
  have h1 := (List.mem_filter.1 hx).2
  simp only [Bool.and_eq_true, Option.isNone_iff_eq_none] at h1
  rw [bothM_p]
  exact fun he => atP_none.1 h1.1 m hm he.symm
theorem bare_top {l : List PM} {q : Bs} (h : bareL l q = true) : ∃ y ∈ l, y.k = 4 ∧ underL q y.p = true ∧ (pathOkL y.p = true → bareL l y.p = false) := by
  have key : ∀ n, ∀ y ∈ l, y.p.length ≤ n → y.k = 4 → underL q y.p = true → ∃ y ∈ l, y.k = 4 ∧ underL q y.p = true ∧ (pathOkL y.p = true → bareL l y.p = false) := by
    intro n
    induction n with
    | zero =>
      intro y hy hl hk hu
      refine ⟨y, hy, hk, hu, fun hp => ?_⟩
      have := (path_len hp).1
      omega
    | succ n ih =>
      intro y hy hl hk hu
      by_cases hp : pathOkL y.p = true
      · cases hb : bareL l y.p with
        | false => exact ⟨y, hy, hk, hu, fun _ => hb⟩
        | true =>
          obtain ⟨z, hz, hzk, hzu⟩ := bare_iff.1 hb
          by_cases hzp : pathOkL z.p = true
          · have : z.p.length < y.p.length := by
              obtain ⟨x, hx⟩ := under_pre hzu hzp
              rw [hx]; simp
            exact ih z hz (by omega) hzk (under_trans hu hzu)
          · exact ⟨z, hz, hzk, under_trans hu hzu, fun h => absurd h hzp⟩
      · exact ⟨y, hy, hk, hu, fun h => absurd h hp⟩
  obtain ⟨y, hy, hk, hu⟩ := bare_iff.1 h
  exact key _ y hy (Nat.le_refl _) hk hu
theorem tidyM_same {u v : List PM} {m : PM} (h : bareL u m.p = bareL v m.p) : tidyM u m = tidyM v m := by unfold tidyM; rw [h]
theorem tidy_eq {l : List PM} (ho : OrdP PM.p l) (hp : ∀ m ∈ l, pathOkL m.p = true) : tidyL [] l = tidyRaw l := by
  have key : ∀ (rest pre : List PM), pre ++ rest = l → tidyL (pre.filterMap (tidyM l)) rest = l.filterMap (tidyM l) := by
    intro rest
    induction rest with
    | nil => intro pre h; rw [List.append_nil] at h; rw [h]; rfl
    | cons m r ih =>
      intro pre h
      have hm : m ∈ l := by rw [← h]; simp
      have hbare : bareL (pre.filterMap (tidyM l)) m.p = bareL l m.p := by
        rw [Bool.eq_iff_iff, bare_iff]
        constructor
        · rintro ⟨x, hx, hk, hu⟩
          obtain ⟨y, hy, hyx⟩ := List.mem_filterMap.1 hx
          have := tidyM_4 hyx hk
          subst this
          exact bare_iff.2 ⟨y, by rw [← h]; simp [hy], hk, hu⟩
        · intro hb
          obtain ⟨y, hy, hk, hu, hyb⟩ := bare_top hb
          have hyb := hyb (hp y hy)
          refine ⟨y, List.mem_filterMap.2 ⟨y, ?_, by unfold tidyM; rw [hyb]; rfl⟩, hk, hu⟩
          have hl := under_less hu (hp y hy)
          rw [← h] at hy
          rcases List.mem_append.1 hy with h1 | h1
          · exact h1
          · exfalso
            have ho2 : OrdP PM.p (m :: r) := by
              unfold OrdP at ho ⊢
              rw [← h, List.pairwise_append] at ho
              exact ho.2.1
            rcases List.mem_cons.1 h1 with rfl | h1
            · rw [less_irrefl] at hl; cases hl
            · have := less_trans hl ((ordP_cons.1 ho2).1 y h1)
              rw [less_irrefl] at this; cases this
      rw [tidyL, tidyM_same hbare]
      have hnext := ih (pre ++ [m]) (by rw [← h]; simp)
      rw [List.filterMap_append] at hnext
      cases hc : tidyM l m with
      | none =>
        rw [show List.filterMap (tidyM l) [m] = [] by simp [hc], List.append_nil] at hnext
        exact hnext
      | some n =>
        rw [show List.filterMap (tidyM l) [m] = [n] by simp [hc]] at hnext
        exact hnext
  exact key l [] rfl
theorem dis_filterMap {α : Type} {f : α → Bs} {g : α → Option α} (hg : ∀ a b, g a = some b → f b = f a) {u : List α} (h : DisP f u) : DisP f (u.filterMap g) := by
  unfold DisP at *
  rw [List.pairwise_filterMap]
  exact List.Pairwise.imp (fun {a b} hab x hx y hy => by rw [hg _ _ hx, hg _ _ hy]; exact hab) h
theorem ord_filterMap {α : Type} {f : α → Bs} {g : α → Option α} (hg : ∀ a b, g a = some b → f b = f a) {u : List α} (h : OrdP f u) : OrdP f (u.filterMap g) := by
  unfold OrdP at *
  rw [List.pairwise_filterMap]
  exact List.Pairwise.imp (fun {a b} hab x hx y hy => by rw [hg _ _ hx, hg _ _ hy]; exact hab) h
theorem bare_mem {u v : List PM} (h : ∀ m, m ∈ u ↔ m ∈ v) (q : Bs) : bareL u q = bareL v q := by
  rw [Bool.eq_iff_iff, bare_iff, bare_iff]
  constructor
  · rintro ⟨m, hm, h1⟩; exact ⟨m, (h m).1 hm, h1⟩
  · rintro ⟨m, hm, h1⟩; exact ⟨m, (h m).2 hm, h1⟩
theorem join_path_ {a b : List PM} (ha : LOk a) (hb : LOk b) : ∀ m ∈ joinRaw a b, pathOkL m.p = true := by
  intro m hm
  rcases List.mem_append.1 hm with h | h
  · exact hb.pth (List.mem_filter.1 h).1
  · obtain ⟨x, hx, rfl⟩ := List.mem_map.1 h
    rw [bothM_p]; exact ha.pth hx
theorem join_mem {a b : List PM} (ha : LOk a) (hb : LOk b) : ∀ m, m ∈ (joinRaw a b).foldl (putP PM.p) [] ↔ m ∈ joinRaw a b := by
  intro m
  rw [mem_fold (join_dis ha.ord hb.ord) ord_nil]; simp
theorem joinLy_eq {a b : List PM} (ha : LOk a) (hb : LOk b) : joinLy a b = tidyRaw ((joinRaw a b).foldl (putP PM.p) []) :=
  tidy_eq (ord_fold ord_nil) fun m hm => join_path_ ha hb m ((join_mem ha hb m).1 hm)
theorem joinLy_ord {a b : List PM} (ha : LOk a) (hb : LOk b) : OrdP PM.p (joinLy a b) := by
  rw [joinLy_eq ha hb]
  exact ord_filterMap (fun _ _ h => tidyM_p h) (ord_fold ord_nil)
theorem tidyRaw_mem {a b : List PM} (ha : LOk a) (hb : LOk b) (m : PM) : m ∈ tidyRaw (joinRaw a b) ↔ m ∈ joinLy a b := by
  rw [joinLy_eq ha hb]
  unfold tidyRaw
  rw [List.mem_filterMap, List.mem_filterMap]
  have hs : ∀ x, tidyM (joinRaw a b) x = tidyM ((joinRaw a b).foldl (putP PM.p) []) x := fun x => tidyM_same (bare_mem (fun m => (join_mem ha hb m).symm) _)
  constructor
  · rintro ⟨x, hx, h⟩; exact ⟨x, (join_mem ha hb x).2 hx, (hs x) ▸ h⟩
  · rintro ⟨x, hx, h⟩; exact ⟨x, (join_mem ha hb x).1 hx, (hs x).symm ▸ h⟩
theorem tidyRaw_dis {a b : List PM} (ha : LOk a) (hb : LOk b) : DisP PM.p (tidyRaw (joinRaw a b)) := dis_filterMap (fun _ _ h => tidyM_p h) (join_dis ha.ord hb.ord)
theorem join_len {a b : List PM} (ha : LOk a) (hb : LOk b) : (tidyRaw (joinRaw a b)).length = (joinLy a b).length :=
  perm_of_mem (tidyRaw_dis ha hb) (joinLy_ord ha hb) (tidyRaw_mem ha hb)
theorem join_of_raw {a b : List PM} (ha : LOk a) (hb : LOk b) {s : List PM} (hp : s.Perm (tidyRaw (joinRaw a b))) (hs : s.Pairwise fun a b => bytesLess b.p a.p = false) : s = joinLy a b :=
  ord_ext (ord_of_sorted hp (tidyRaw_dis ha hb) hs) (joinLy_ord ha hb) fun e => by rw [hp.mem_iff, tidyRaw_mem ha hb]
theorem lok_nil : LOk [] := ⟨by simp, fun m h => (by cases h), ord_nil, fun m h => (by cases h), fun m h => (by cases h)⟩
theorem tidy_self {a : List PM} (ha : LOk a) : tidyRaw a = a := by
  unfold tidyRaw
  have : ∀ m ∈ a, tidyM a m = some m := fun m hm => by
    unfold tidyM
    split
    · next hb =>
      have h1 : ¬ 2 < m.k := fun h => by rw [ha.bare m hm h] at hb; cases hb
      rw [if_neg (by omega), if_neg (by omega)]
    · rfl
  have key : ∀ u : List PM, (∀ m ∈ u, m ∈ a) → u.filterMap (tidyM a) = u := by
    intro u
    induction u with
    | nil => intro _; rfl
    | cons m r ih =>
      intro h
      rw [List.filterMap_cons, this m (h m (by simp)), ih (fun x hx => h x (by simp [hx]))]
  exact key a fun _ h => h
theorem fold_self {α : Type} {f : α → Bs} {a : List α} (h : OrdP f a) : a.foldl (putP f) [] = a := ord_ext (ord_fold ord_nil) h fun e => by rw [mem_fold h.dis ord_nil]; simp
theorem join_nil_r {a : List PM} (ha : LOk a) : joinLy a [] = a := by
  rw [joinLy_eq ha lok_nil]
  have : joinRaw a [] = a := by
    unfold joinRaw
    have : bothM [] = id := funext fun m => by unfold bothM; split <;> rfl
    rw [this]; simp
  rw [this, fold_self ha.ord, tidy_self ha]
theorem join_nil_l {a : List PM} (ha : LOk a) : joinLy [] a = a := by
  rw [joinLy_eq lok_nil ha]
  have : joinRaw [] a = a := by
    unfold joinRaw
    simp [atP, hidesL]
  rw [this, fold_self ha.ord, tidy_self ha]
end Go.Proofs.YtkhbkhibjflgmaaDoor
