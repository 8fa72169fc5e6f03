/- Small laws for rows of structs that the call itself makes: one more struct, a whole slice of structs. Conditions: each theorem's own. -/
import Derived.Test.YtkhbkhibjflgmaaDoorConv
import Derived.Test.YtkhbkhibjflgmaaDoorPlS
import Derived.Test.YtkhbkhibjflgmaaDoorReg
import Derived.Laws.AppendOwnNone
namespace Go.Proofs.YtkhbkhibjflgmaaDoor
open Go.RowKit
/-- The same, the heap's size spelled otherwise. -/
theorem wp_app1H {P : Program} {ops : Array Oper} {rest : List Oper} {o : Oper} {a : Act} {Q : Exit → Act → World → Prop} (hgd : o.guard = none) (s x : Operand) (t : TypeId)
    (ho : o.op = .call { callee := .builtin .append, args := #[s, x], argTypes := #[t, t] }) {e : TypeId} {size bytes : Nat} (E : Elt P t e size bytes)
    (base B : Nat) (w0 w : World) (cs : Array Value) (v : Value) (n : Nat) (xs : List Value) (hs : a.eval s = v) (H : Nat) (hH : w.heap.size = H) (hx : a.eval x = .slice (some ⟨H, 0, none⟩) 1 1)
    (hown : w.ownsRow base e size v n xs) (hcs : cs.size = size) (h1 : ∀ u ∈ cs.toList, u.oneCell' = true) (hn : n ≤ 1000000) (hbase : base ≤ w.heap.size) (hB : Below B w0 w) (hBb : B ≤ base)
    (h : ∀ v' w', w'.ownsRow base e size v' (n + 1) (xs ++ cs.toList) → Below B w0 w' → w.heap.size ≤ w'.heap.size → (w.alloc (.cells cs e)).grownBy w' v.ownBlock → wpList P ops Q rest (a.put o.dst v') w') :
    wpList P ops Q (o :: rest) a (w.alloc (.cells cs e)) :=
  wp_app1 hgd s x t ho E base B w0 w cs v n xs hs (hH ▸ hx) hown hcs h1 hn hbase hB hBb h
theorem SlF.drop {α : Type} {f : α → List Value} {w : World} {b off : Nat} {xs : List α} (h : SlF f w (some ⟨b, off, none⟩) xs) (k : Nat) : SlF f w (some ⟨b, off + k * 3, none⟩) (xs.drop k) := fun hn => by
  rw [List.length_drop] at hn
  obtain ⟨b', off', e, hlt, hc⟩ := h (by omega)
  simp only [Option.some.injEq, Addr.mk.injEq, and_true] at e
  obtain ⟨rfl, rfl⟩ := e
  refine ⟨b, off + k * 3, rfl, hlt, fun j x hj i u hu => ?_⟩
  rw [List.getElem?_drop] at hj
  have := hc (k + j) x hj i u hu
  rw [show off + k * 3 + j * 3 + i = off + (k + j) * 3 + i by omega]
  exact this
theorem SlF.cells_at {α : Type} {f : α → List Value} (hf : ∀ x, (f x).length = 3) {w : World} {b off : Nat} {xs : List α} (h : SlF f w (some ⟨b, off, none⟩) xs) : ∀ j u, (xs.flatMap f)[j]? = some u → w.cell? ((⟨b, off, none⟩ : Addr).add j) = some u := by
  intro j u hj
  have hl : j < xs.length * 3 := by
    have := (List.getElem?_eq_some_iff.1 hj).1
    rwa [flatMap_len hf] at this
  obtain ⟨b', off', e, hlt, hc⟩ := h (by omega)
  simp only [Option.some.injEq, Addr.mk.injEq, and_true] at e
  obtain ⟨rfl, rfl⟩ := e
  have hk : j / 3 < xs.length := by omega
  obtain ⟨x, hx⟩ : ∃ x, xs[j / 3]? = some x := ⟨_, List.getElem?_eq_getElem hk⟩
  have key : ∀ (ys : List α) (k i : Nat) (y : α), ys[k]? = some y → i < 3 → (ys.flatMap f)[k * 3 + i]? = (f y)[i]? := by
    intro ys
    induction ys with
    | nil => intro k i y hy; simp at hy
    | cons z r ih =>
      intro k i y hy hi
      rw [List.flatMap_cons]
      cases k with
      | zero =>
        simp at hy; subst hy
        rw [Nat.zero_mul, Nat.zero_add, List.getElem?_append_left (by rw [hf]; exact hi)]
      | succ k =>
        rw [List.getElem?_append_right (by rw [hf]; omega), hf, show (k + 1) * 3 + i - 3 = k * 3 + i by omega]
        exact ih k i y (by simpa using hy) hi
  have e1 : j / 3 * 3 + j % 3 = j := by omega
  have hu : (f x)[j % 3]? = some u := by rw [← key xs (j / 3) (j % 3) x hx (Nat.mod_lt _ (by omega)), e1]; exact hj
  have := hc (j / 3) x hx (j % 3) u hu
  have e2 : (⟨b, off, none⟩ : Addr).add j = ⟨b, off + j, none⟩ := by
    unfold Addr.add
    by_cases h : j = 0 <;> simp [h]
  rw [e2, show off + j = off + j / 3 * 3 + j % 3 by omega]
  exact this
/-- 'append(out, ys...)': a slice of structs of three cells onto a row of the call's own. -/
theorem wp_appS {P : Program} {ops : Array Oper} {rest : List Oper} {o : Oper} {a : Act} {Q : Exit → Act → World → Prop} (hgd : o.guard = none) (s x : Operand) (t : TypeId)
    (ho : o.op = .call { callee := .builtin .append, args := #[s, x], argTypes := #[t, t] }) {e : TypeId} {bytes : Nat} (E : Elt P t e 3 bytes)
    (base B : Nat) (w0 w : World) (v : Value) (n : Nat) (xs : List Value) (hs : a.eval s = v) {α : Type} (f : α → List Value) (hf : ∀ x, (f x).length = 3) (h1 : ∀ x, ∀ u ∈ f x, u.oneCell' = true) (ys : List α) (b off m c : Nat) (hm : ys.length = m) (hx : a.eval x = .slice (some ⟨b, off, none⟩) m c)
    (hsl : SlF f w (some ⟨b, off, none⟩) ys) (hown : w.ownsRow base e 3 v n xs) (hn : n + ys.length ≤ 2000000) (hbase : base ≤ w.heap.size) (hB : Below B w0 w) (hBb : B ≤ base)
    (h : ∀ v' w', w'.ownsRow base e 3 v' (n + ys.length) (xs ++ ys.flatMap f) → Below B w0 w' → w.heap.size ≤ w'.heap.size → w.grownBy w' v.ownBlock → wpList P ops Q rest (a.put o.dst v') w') :
    wpList P ops Q (o :: rest) a w := by
  subst hm
  obtain ⟨i, z, hi, hz, hsz, hby, hzs⟩ := E.info
  have hsm := E.small
  refine wpList_append_own _ hgd s x t ho base e i z 3 bytes E.und hi hz hsz hby hzs E.pos v n xs hs hown ⟨b, off, none⟩ ys.length c (ys.flatMap f) hx (flatMap_len hf ys) (hsl.cells_at hf) (fun u hu => ?_) (by unfold maxLen; omega) ?_ hbase ?_
  · obtain ⟨y, hy, hu⟩ := List.mem_flatMap.1 hu
    exact h1 y u hu
  · have : (n + ys.length) * bytes ≤ 2000000 * 64 := Nat.mul_le_mul hn hsm
    omega
  · intro v' w' h2 h3 _
    refine h v' w' h2 (hB.grown h3 (Nat.le_trans hBb hbase) ?_) h3.size h3
    intro k hk
    rcases hown.2 with ⟨rfl, _⟩ | ⟨g, cap, cur, rfl, hg, _⟩
    · simp [Value.ownBlock] at hk
    · simp [Value.ownBlock] at hk; omega
/-- A slice whose cells lie in another block than the one that grew. -/
theorem SlF.grown {α : Type} {f : α → List Value} {w w' : World} {a : Option Addr} {xs : List α} {own : Option Nat} (h : SlF f w a xs) (hg : w.grownBy w' own) (hne : ∀ b, a.map (·.block) = some b → own ≠ some b) : SlF f w' a xs := fun hn => by
  obtain ⟨b, off, rfl, hlt, hc⟩ := h hn
  refine ⟨b, off, rfl, Nat.lt_of_lt_of_le hlt hg.size, fun k x hx j u hu => ?_⟩
  have h1 := hc k x hx j u hu
  have hb := hg.block b hlt (Ne.symm (hne b rfl))
  rw [← h1]
  unfold World.cell?
  simp only [hb]
abbrev En.bs (e : En) : Bs := e.p.data.toList
abbrev Mk.bs (e : Mk) : Bs := e.p.data.toList
theorem putP_map {α β : Type} {f : α → Bs} {g : β → Bs} (h : α → β) (hp : ∀ a, g (h a) = f a) (t : List α) (e : α) : (putP f t e).map h = putP g (t.map h) (h e) := by
  induction t with
  | nil => rfl
  | cons a r ih =>
    rw [List.map_cons, putP, putP, hp, hp]
    split
    · rw [List.map_cons, ih]
    · split <;> rfl
/-- Where a struct is put. -/
theorem put_split {α : Type} {f : α → Bs} (t : List α) (e : α) (k : Nat) (hk : k ≤ t.length) (h1 : ∀ (j : Nat) (x : α), j < k → t[j]? = some x → Op.bytesLess (f x) (f e) = true) (h2 : ∀ x, t[k]? = some x → Op.bytesLess (f x) (f e) = false) :
    putP f t e = t.take k ++ e :: t.drop (k + if (t[k]?.map f) = some (f e) then 1 else 0) := by
  induction t generalizing k with
  | nil =>
    simp at hk; subst hk
    simp [putP]
  | cons a r ih =>
    cases k with
    | zero =>
      have h3 := h2 a rfl
      rw [putP, if_neg (by rw [h3]; simp)]
      by_cases h4 : f a = f e
      · rw [if_pos h4]; simp [h4]
      · rw [if_neg h4]; simp [h4]
    | succ k =>
      rw [putP, if_pos (h1 0 a (by omega) rfl)]
      have := ih k (by simpa using hk) (fun j x hj hx => h1 (j + 1) x (by omega) (by simpa using hx)) (fun x hx => h2 x (by simpa using hx))
      rw [this]
      simp only [List.take_succ_cons, List.cons_append, List.getElem?_cons_succ]
      rw [show k + 1 + (if Option.map f r[k]? = some (f e) then 1 else 0) = (k + if Option.map f r[k]? = some (f e) then 1 else 0) + 1 by omega, List.drop_succ_cons]
end Go.Proofs.YtkhbkhibjflgmaaDoor
