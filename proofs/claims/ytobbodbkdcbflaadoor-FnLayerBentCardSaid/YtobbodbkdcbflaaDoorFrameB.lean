/- What the rows over codes share: an argument of bytes opened. Conditions: none. -/
import Derived.Test.YtobbodbkdcbflaaDoorFrameL
import Derived.Test.YtobbodbkdcbflaaDoorB1
namespace Go.Proofs.YtobbodbkdcbflaaDoor
open Go.ChangeShapes Go.WideShapes Go.ChangeAt Go.RowKit
theorem code_of {H : Type} {enc : TypeId × Value → H} {W : World} {a : Option Addr} {n c : Nat} {d : DataW H} {p : List MemPlace}
    (h : DataW.Trod enc Tryd.prog W 0 (fun _ => true) true 22 (.slice a n c) d p) : Code W a n c := by
  have lt : ∀ x ∈ p, x.block < W.heap.size := by obtain ⟨m, hm⟩ := h; exact DataW.trod_lt m _ _ _ hm
  obtain ⟨fuel, hf⟩ := h
  rcases open_ints Tryd.underlying22 Tryd.underlying5 (by kernel_rfl) hf with ⟨hcs, _⟩ | ⟨x, l, c', zs, hcs, _, hl, hm, hz, hx, hcell, hwz⟩
  · simp [Value.cells] at hcs
    obtain ⟨rfl, rfl, rfl⟩ := hcs
    exact ⟨Nat.le_refl _, fun h => absurd h (by omega), by omega⟩
  · simp [Value.cells] at hcs
    obtain ⟨rfl, rfl, rfl⟩ := hcs
    simp only [if_true] at hz
    refine ⟨hl, fun hn => ?_, by unfold maxLen at hm; omega⟩
    obtain ⟨b, off, spot⟩ := x
    have hc0 := hcell 0 (by omega)
    have hspot : spot = none := by simpa [Addr.add] using World.cell?_spot hc0
    subst hspot
    have hlt : b < W.heap.size := World.block_lt_of_cell? _ _ hc0 |> fun h => by simpa [Addr.add] using h
    have m0 : IntKind.u8.min = 0 := by decide
    have m1 : IntKind.u8.max = 255 := by decide
    have hbd : ∀ z ∈ zs, 0 ≤ z ∧ z ≤ 255 := fun z hz => by
      have := hwz z hz
      simp only [Lit.wf, m0, m1, Bool.and_eq_true, decide_eq_true_eq] at this
      exact this
    have hmem : ∀ k, k < zs.length → zs.getD k 0 ∈ zs := fun k hk => by
      rw [List.getD_eq_getElem?_getD, List.getElem?_eq_getElem hk]; simp
    refine ⟨b, off, rfl, hlt, fun k hk => ⟨zs.getD k 0, ?_, ?_, ?_⟩⟩
    · exact (hbd _ (hmem k (by omega))).1
    · exact (hbd _ (hmem k (by omega))).2
    · have := hcell k (by omega)
      have e : (⟨b, off, none⟩ : Addr).add k = ⟨b, off + k, none⟩ := by
        unfold Addr.add
        by_cases h0 : k = 0 <;> simp [h0]
      rw [e] at this
      exact this
end Go.Proofs.YtobbodbkdcbflaaDoor
