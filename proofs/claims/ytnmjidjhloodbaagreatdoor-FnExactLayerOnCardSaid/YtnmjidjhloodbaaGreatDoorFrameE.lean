/- What the rows over lists of entries and of marks share: an argument of structs opened. Conditions: none. -/
import Derived.Test.YtnmjidjhloodbaaGreatDoorB1
import Derived.ProofKit
import Derived.OpenShut
import Derived.Deep.Slices
import Derived.Deep.Strs
namespace Go.Proofs.YtnmjidjhloodbaaGreatDoor
open Go.ChangeShapes Go.WideShapes Go.ChangeAt Go.RowKit Go.Deep
theorem list_of {α : Type} {P : Nat → α → Prop} : ∀ n : Nat, (∀ i, i < n → ∃ x, P i x) → ∃ xs : List α, xs.length = n ∧ ∀ (i : Nat) (x : α), xs[i]? = some x → P i x
  | 0, _ => ⟨[], rfl, fun i x h => by simp at h⟩
  | n + 1, h => by
    obtain ⟨xs, hl, hx⟩ := list_of n (fun i hi => h i (by omega))
    obtain ⟨y, hy⟩ := h n (by omega)
    refine ⟨xs ++ [y], by simp [hl], fun i x hi => ?_⟩
    rw [List.getElem?_append] at hi
    split at hi
    · exact hx i x hi
    · next hlt =>
      have hin : i = n := by
        have := (List.getElem?_eq_some_iff.1 hi).1
        simp at this; omega
      subst hin
      rw [hl, Nat.sub_self] at hi
      simp at hi
      exact hi ▸ hy
theorem add_none (b off p : Nat) : (⟨b, off, none⟩ : Addr).add p = ⟨b, off + p, none⟩ := by
  unfold Addr.add
  by_cases h : p = 0 <;> simp [h]
theorem rows_of {H : Type} {enc : TypeId × Value → H} {W : World} {t e : TypeId} {a : Option Addr} {n c : Nat} {d : DataW H} {p : List MemPlace}
    (ht : Tryz.prog.underlying t = some (.slice e)) (hC : Tryz.prog.cellsOf e = 3)
    (h : DataW.Trod enc Tryz.prog W 0 (fun _ => true) true t (.slice a n c) d p) :
    n ≤ maxLen ∧ (0 < n → ∃ b off, a = some ⟨b, off, none⟩ ∧ b < W.heap.size ∧ ∀ i, i < n → ∃ (u0 u1 u2 : Value) (m : Nat) (y : DataW H × List MemPlace), W.cell? ⟨b, off + i * 3, none⟩ = some u0 ∧ W.cell? ⟨b, off + i * 3 + 1, none⟩ = some u1 ∧ W.cell? ⟨b, off + i * 3 + 2, none⟩ = some u2 ∧
      DataW.trod enc Tryz.prog W 0 (fun _ => true) true m e [u0, u1, u2] = some y) := by
  obtain ⟨fuel, hf⟩ := h
  rcases open_slice ht hf with ⟨hcs, _⟩ | ⟨x, l, c', m, n', D, Pl, hcs, hb, hl, hm, hmm, hx, hi⟩
  · simp [Value.cells] at hcs
    obtain ⟨rfl, rfl, rfl⟩ := hcs
    exact ⟨by unfold maxLen; omega, fun h => absurd h (by omega)⟩
  · simp [Value.cells] at hcs
    obtain ⟨rfl, rfl, rfl⟩ := hcs
    simp only [if_true] at hmm
    refine ⟨Nat.le_trans hl hm, fun hn => ?_⟩
    have hat : ∀ i, i < n → ∃ (u0 u1 u2 : Value) (y : DataW H × List MemPlace), W.cell? (x.add (i * 3)) = some u0 ∧ W.cell? ((x.add (i * 3)).add 1) = some u1 ∧ W.cell? ((x.add (i * 3)).add 2) = some u2 ∧
        DataW.trod enc Tryz.prog W 0 (fun _ => true) true n' e [u0, u1, u2] = some y := fun i hin => by
      obtain ⟨cs', hc, htr⟩ := hi i (by omega)
      rw [hC] at hc
      obtain ⟨_, hcl, hg⟩ := World.cells?_some hc
      match cs', hcl with
      | [u0, u1, u2], _ =>
        have g0 := hg 0 (by omega)
        have g1 := hg 1 (by omega)
        have g2 := hg 2 (by omega)
        simp [Addr.add] at g0
        exact ⟨u0, u1, u2, _, g0, by simpa using g1, by simpa using g2, htr⟩
    obtain ⟨b, off, spot⟩ := x
    obtain ⟨u0, _, _, _, h0, _⟩ := hat 0 hn
    have hspot : spot = none := by simpa [Addr.add] using World.cell?_spot h0
    subst hspot
    have hlt : b < W.heap.size := by
      have := World.block_lt_of_cell? _ _ h0
      simpa [Addr.add] using this
    refine ⟨b, off, rfl, hlt, fun i hin => ?_⟩
    obtain ⟨v0, v1, v2, y, k0, k1, k2, htr⟩ := hat i hin
    rw [add_none] at k0 k1 k2
    rw [add_none] at k1 k2
    exact ⟨v0, v1, v2, n', y, k0, k1, k2, htr⟩
theorem ents_of {H : Type} {enc : TypeId × Value → H} {W : World} {a : Option Addr} {n c : Nat} {d : DataW H} {p : List MemPlace}
    (h : DataW.Trod enc Tryz.prog W 0 (fun _ => true) true 22 (.slice a n c) d p) :
    ∃ xs : List En, xs.length = n ∧ SlF En.cells W a xs ∧ n ≤ maxLen ∧ ∀ e ∈ xs, e.p.size ≤ maxLen ∧ e.x.size ≤ maxLen := by
  obtain ⟨hm, hr⟩ := rows_of Tryz.underlying22 (by kernel_rfl) h
  by_cases hn : 0 < n
  · obtain ⟨b, off, rfl, hlt, hat⟩ := hr hn
    obtain ⟨xs, hl, hx⟩ := list_of (P := fun i (e : En) => (W.cell? ⟨b, off + i * 3, none⟩ = some (.string e.p) ∧ W.cell? ⟨b, off + i * 3 + 1, none⟩ = some (.bool e.d) ∧ W.cell? ⟨b, off + i * 3 + 2, none⟩ = some (.string e.x)) ∧ e.p.size ≤ maxLen ∧ e.x.size ≤ maxLen) n (fun i hi => by
      obtain ⟨u0, u1, u2, m, y, k0, k1, k2, htr⟩ := hat i hi
      obtain ⟨y0, y1, y2, m', _, _, h0, h1, h2⟩ := trod_struct3 Tryz.underlying47 htr
      have o9 : Tryz.prog.cellsOf 9 = 1 := by kernel_rfl
      have o4 : Tryz.prog.cellsOf 4 = 1 := by kernel_rfl
      simp [o9, o4] at h0 h1 h2
      obtain ⟨s, e0, _, hs⟩ := DataW.trod_string Tryz.underlying9 h0
      obtain ⟨bb, e1, _⟩ := DataW.trod_bool Tryz.underlying4 h1
      obtain ⟨s', e2, _, hs'⟩ := DataW.trod_string Tryz.underlying9 h2
      simp only [List.cons.injEq, and_true] at e0 e1 e2
      subst e0; subst e1; subst e2
      exact ⟨⟨s, bb, s'⟩, ⟨k0, k1, k2⟩, hs, hs'⟩)
    refine ⟨xs, hl, fun _ => ⟨b, off, rfl, hlt, fun k x hk j u hu => ?_⟩, hm, fun e he => ?_⟩
    · obtain ⟨⟨k0, k1, k2⟩, _⟩ := hx k x hk
      match j, hu with
      | 0, hu => simp [En.cells] at hu; subst hu; exact k0
      | 1, hu => simp [En.cells] at hu; subst hu; exact k1
      | 2, hu => simp [En.cells] at hu; subst hu; exact k2
    · obtain ⟨k, hk⟩ := List.getElem?_of_mem he
      exact (hx k e hk).2
  · obtain rfl : n = 0 := by omega
    exact ⟨[], rfl, SlF.nil_, hm, fun e he => by cases he⟩
theorem marks_of {H : Type} {enc : TypeId × Value → H} {W : World} {a : Option Addr} {n c : Nat} {d : DataW H} {p : List MemPlace}
    (h : DataW.Trod enc Tryz.prog W 0 (fun _ => true) true 36 (.slice a n c) d p) :
    ∃ xs : List Mk, xs.length = n ∧ SlF Mk.cells W a xs ∧ n ≤ maxLen ∧ ∀ e ∈ xs, e.p.size ≤ maxLen ∧ e.x.size ≤ maxLen := by
  obtain ⟨hm, hr⟩ := rows_of Tryz.underlying36 (by kernel_rfl) h
  by_cases hn : 0 < n
  · obtain ⟨b, off, rfl, hlt, hat⟩ := hr hn
    obtain ⟨xs, hl, hx⟩ := list_of (P := fun i (e : Mk) => (W.cell? ⟨b, off + i * 3, none⟩ = some (.string e.p) ∧ W.cell? ⟨b, off + i * 3 + 1, none⟩ = some (.int .i64 e.k) ∧ W.cell? ⟨b, off + i * 3 + 2, none⟩ = some (.string e.x)) ∧ e.p.size ≤ maxLen ∧ e.x.size ≤ maxLen) n (fun i hi => by
      obtain ⟨u0, u1, u2, m, y, k0, k1, k2, htr⟩ := hat i hi
      obtain ⟨y0, y1, y2, m', _, _, h0, h1, h2⟩ := trod_struct3 Tryz.underlying62 htr
      have o9 : Tryz.prog.cellsOf 9 = 1 := by kernel_rfl
      have o3 : Tryz.prog.cellsOf 3 = 1 := by kernel_rfl
      simp [o9, o3] at h0 h1 h2
      obtain ⟨s, e0, _, hs⟩ := DataW.trod_string Tryz.underlying9 h0
      obtain ⟨bb, e1, _⟩ := DataW.trod_int Tryz.underlying3 h1
      obtain ⟨s', e2, _, hs'⟩ := DataW.trod_string Tryz.underlying9 h2
      simp only [List.cons.injEq, and_true] at e0 e1 e2
      subst e0; subst e1; subst e2
      exact ⟨⟨s, bb, s'⟩, ⟨k0, k1, k2⟩, hs, hs'⟩)
    refine ⟨xs, hl, fun _ => ⟨b, off, rfl, hlt, fun k x hk j u hu => ?_⟩, hm, fun e he => ?_⟩
    · obtain ⟨⟨k0, k1, k2⟩, _⟩ := hx k x hk
      match j, hu with
      | 0, hu => simp [Mk.cells] at hu; subst hu; exact k0
      | 1, hu => simp [Mk.cells] at hu; subst hu; exact k1
      | 2, hu => simp [Mk.cells] at hu; subst hu; exact k2
    · obtain ⟨k, hk⟩ := List.getElem?_of_mem he
      exact (hx k e hk).2
  · obtain rfl : n = 0 := by omega
    exact ⟨[], rfl, SlF.nil_, hm, fun e he => by cases he⟩
end Go.Proofs.YtnmjidjhloodbaaGreatDoor
