/- The walks of the exact laws of TreeSame and LayerSame. Conditions: lists and texts are no longer than any can be. -/
import Derived.Test.YtkhbkhibjflgmaaDoorSame2
import Derived.Test.YtkhbkhibjflgmaaDoorSize
namespace Go.Proofs.YtkhbkhibjflgmaaDoor
open Go.RowKit
def TrueS (w : World) (e : Ending) (w' : World) : Prop := e = .returned (.bool true) ∧ Below w.heap.size w w'
theorem below_draws (w : World) (m : Nat) : Below w.heap.size w (w.drewN m) := ⟨rfl, rfl, rfl, Nat.le_refl _, fun _ _ => rfl⟩
theorem flatMap_at {α : Type} {f : α → List Value} (hf : ∀ x, (f x).length = 3) {xs : List α} (k : Nat) (x : α) (hx : xs[k]? = some x) (j : Nat) (hj : j < 3) : (xs.flatMap f)[k * 3 + j]? = (f x)[j]? := by
  induction xs generalizing k with
  | nil => simp at hx
  | cons y r ih =>
    rw [List.flatMap_cons]
    cases k with
    | zero =>
      simp at hx; subst hx
      rw [Nat.zero_mul, Nat.zero_add, List.getElem?_append_left (by rw [hf]; exact hj)]
    | succ k =>
      rw [List.getElem?_append_right (by rw [hf]; omega), hf, show (k + 1) * 3 + j - 3 = k * 3 + j by omega]
      exact ih k (by simpa using hx)
theorem own_slfEn {w : World} {B g c : Nat} {xs : List En} (h : OwnEn w B (.slice (some ⟨g, 0, none⟩) xs.length c) xs) : SlF En.cells w (some ⟨g, 0, none⟩) xs := fun hn => by
  obtain ⟨g', c', hv, _, _, hlt, hc, _⟩ := own_form h hn
  have hg : g = g' := by injection hv with h1; injection h1 with h1; injection h1
  subst hg
  refine ⟨g, 0, rfl, hlt, fun k x hx j u hu => ?_⟩
  rw [Nat.zero_add]
  exact hc _ _ (by rw [flatMap_at (fun _ => rfl) k x hx j (List.getElem?_eq_some_iff.1 hu).1]; exact hu)
theorem toEntS_b (a : Option Addr) (c : Nat) (xs : List En) (w : World) (hs : SlF En.cells w a xs) (hn : xs.length ≤ 2000000) :
    Calls Tryd.prog 21 #[.slice a xs.length c] w fun r w' => r = .returned (.slice (some ⟨w.heap.size, 0, none⟩) xs.length xs.length) ∧ SlF En.cells w' (some ⟨w.heap.size, 0, none⟩) xs ∧ Below w.heap.size w w' :=
  (toEntS_c a c xs w hs hn).mono fun _ _ ⟨h1, h2, h3⟩ => ⟨h1, own_slfEn h2, h3⟩
theorem sTreeSame_b (a a' : Option Addr) (c c' : Nat) (xs ys : List En) (r : Bool) (hr : Hid (r = true ↔ xs = ys)) (w : World) (hs : SlF En.cells w a xs) (hs' : SlF En.cells w a' ys) (hx : xs.length ≤ maxLen) (hy : ys.length ≤ maxLen) :
    Calls Tryd.prog 53 #[.slice a xs.length c, .slice a' ys.length c'] w fun q w' => q = .returned (.bool r) ∧ Below w.heap.size w w' :=
  (sTreeSame_c a a' c c' xs ys r hr w hs hs' hx hy).mono fun _ _ ⟨h1, m, h2⟩ => ⟨h1, h2 ▸ below_draws w m⟩
theorem treeSame_b (a a' : Option Addr) (c c' : Nat) (xs ys : List En) (r : Bool) (hr : Hid (r = true ↔ xs = ys)) (w : World) (hs : SlF En.cells w a xs) (hs' : SlF En.cells w a' ys) (hx : xs.length ≤ maxLen) (hy : ys.length ≤ maxLen) :
    Calls Tryd.prog 52 #[.slice a xs.length c, .slice a' ys.length c'] w fun q w' => q = .returned (.bool r) ∧ Below w.heap.size w w' :=
  (treeSame_c a a' c c' xs ys r hr w hs hs' hx hy).mono fun _ _ ⟨h1, m, h2⟩ => ⟨h1, h2 ▸ below_draws w m⟩
theorem own_slfMk {w : World} {B g c : Nat} {xs : List Mk} (h : OwnMk w B (.slice (some ⟨g, 0, none⟩) xs.length c) xs) : SlF Mk.cells w (some ⟨g, 0, none⟩) xs := fun hn => by
  obtain ⟨g', c', hv, _, _, hlt, hc, _⟩ := own_form h hn
  have hg : g = g' := by injection hv with h1; injection h1 with h1; injection h1
  subst hg
  refine ⟨g, 0, rfl, hlt, fun k x hx j u hu => ?_⟩
  rw [Nat.zero_add]
  exact hc _ _ (by rw [flatMap_at (fun _ => rfl) k x hx j (List.getElem?_eq_some_iff.1 hu).1]; exact hu)
theorem toMarkS_b (a : Option Addr) (c : Nat) (xs : List Mk) (w : World) (hs : SlF Mk.cells w a xs) (hn : xs.length ≤ 2000000) :
    Calls Tryd.prog 29 #[.slice a xs.length c] w fun r w' => r = .returned (.slice (some ⟨w.heap.size, 0, none⟩) xs.length xs.length) ∧ SlF Mk.cells w' (some ⟨w.heap.size, 0, none⟩) xs ∧ Below w.heap.size w w' :=
  (toMarkS_c a c xs w hs hn).mono fun _ _ ⟨h1, h2, h3⟩ => ⟨h1, own_slfMk h2, h3⟩
theorem sLayerSame_b (a a' : Option Addr) (c c' : Nat) (xs ys : List Mk) (r : Bool) (hr : Hid (r = true ↔ xs = ys)) (w : World) (hs : SlF Mk.cells w a xs) (hs' : SlF Mk.cells w a' ys) (hx : xs.length ≤ maxLen) (hy : ys.length ≤ maxLen) :
    Calls Tryd.prog 37 #[.slice a xs.length c, .slice a' ys.length c'] w fun q w' => q = .returned (.bool r) ∧ Below w.heap.size w w' :=
  (sLayerSame_c a a' c c' xs ys r hr w hs hs' hx hy).mono fun _ _ ⟨h1, m, h2⟩ => ⟨h1, h2 ▸ below_draws w m⟩
theorem layerSame_b (a a' : Option Addr) (c c' : Nat) (xs ys : List Mk) (r : Bool) (hr : Hid (r = true ↔ xs = ys)) (w : World) (hs : SlF Mk.cells w a xs) (hs' : SlF Mk.cells w a' ys) (hx : xs.length ≤ maxLen) (hy : ys.length ≤ maxLen) :
    Calls Tryd.prog 36 #[.slice a xs.length c, .slice a' ys.length c'] w fun q w' => q = .returned (.bool r) ∧ Below w.heap.size w w' :=
  (layerSame_c a a' c c' xs ys r hr w hs hs' hx hy).mono fun _ _ ⟨h1, m, h2⟩ => ⟨h1, h2 ▸ below_draws w m⟩
end Go.Proofs.YtkhbkhibjflgmaaDoor
