/- Entries and marks as the walks meet them: their cells, slices of them. Conditions: none. -/
import Derived.Test.YtkhbkhibjflgmaaDoorBase
namespace Go.Proofs.YtkhbkhibjflgmaaDoor
open Go.RowKit
/-- A directory, or a file with data. -/
structure En where
  p : ByteArray
  d : Bool
  x : ByteArray
/-- A mark of a layer. -/
structure Mk where
  p : ByteArray
  k : Int
  x : ByteArray
def En.cells (e : En) : List Value := [.string e.p, .bool e.d, .string e.x]
def Mk.cells (m : Mk) : List Value := [.string m.p, .int .i64 m.k, .string m.x]
abbrev En.val (e : En) : Value := .agg #[.string e.p, .bool e.d, .string e.x]
abbrev Mk.val (m : Mk) : Value := .agg #[.string m.p, .int .i64 m.k, .string m.x]
/-- A slice of structs of three cells that can be read: nil and empty ones let in. -/
def SlF {α : Type} (f : α → List Value) (w : World) (a : Option Addr) (xs : List α) : Prop :=
  0 < xs.length → ∃ b off, a = some ⟨b, off, none⟩ ∧ b < w.heap.size ∧ ∀ k x, xs[k]? = some x → ∀ j u, (f x)[j]? = some u → w.cell? ⟨b, off + k * 3 + j, none⟩ = some u
section
variable {α : Type} {f : α → List Value} {w w' : World} {a : Option Addr} {xs : List α}
theorem SlF.nil_ : SlF f w a ([] : List α) := fun h => absurd h (by simp)
theorem SlF.below (h : SlF f w a xs) (hb : Below w.heap.size w w') : SlF f w' a xs := fun hn => by
  obtain ⟨b, off, e, hlt, hc⟩ := h hn
  exact ⟨b, off, e, Nat.lt_of_lt_of_le hlt hb.size, fun k x hx j u hu => (hb.cell (p := ⟨b, off + k * 3 + j, none⟩) hlt).trans (hc k x hx j u hu)⟩
theorem SlF.addr (h : SlF f w a xs) (hn : 0 < xs.length) : ∃ b off, a = some ⟨b, off, none⟩ ∧ b < w.heap.size := by
  obtain ⟨b, off, e, hlt, _⟩ := h hn
  exact ⟨b, off, e, hlt⟩
end
/-- The three cells of an entry that stands at place k. -/
theorem en_at {w : World} {b off : Nat} {xs : List En} (h : SlF En.cells w (some ⟨b, off, none⟩) xs) (k : Nat) (e : En) (he : xs[k]? = some e) :
    w.cell? ⟨b, off + k * 3, none⟩ = some (.string e.p) ∧ w.cell? ⟨b, off + k * 3 + 1, none⟩ = some (.bool e.d) ∧ w.cell? ⟨b, off + k * 3 + 2, none⟩ = some (.string e.x) := by
  have hk : k < xs.length := (List.getElem?_eq_some_iff.1 he).1
  obtain ⟨b', off', e1, _, hc⟩ := h (by omega)
  simp only [Option.some.injEq, Addr.mk.injEq, and_true] at e1
  obtain ⟨rfl, rfl⟩ := e1
  exact ⟨hc k e he 0 _ rfl, hc k e he 1 _ rfl, hc k e he 2 _ rfl⟩
theorem mk_at {w : World} {b off : Nat} {xs : List Mk} (h : SlF Mk.cells w (some ⟨b, off, none⟩) xs) (k : Nat) (e : Mk) (he : xs[k]? = some e) :
    w.cell? ⟨b, off + k * 3, none⟩ = some (.string e.p) ∧ w.cell? ⟨b, off + k * 3 + 1, none⟩ = some (.int .i64 e.k) ∧ w.cell? ⟨b, off + k * 3 + 2, none⟩ = some (.string e.x) := by
  have hk : k < xs.length := (List.getElem?_eq_some_iff.1 he).1
  obtain ⟨b', off', e1, _, hc⟩ := h (by omega)
  simp only [Option.some.injEq, Addr.mk.injEq, and_true] at e1
  obtain ⟨rfl, rfl⟩ := e1
  exact ⟨hc k e he 0 _ rfl, hc k e he 1 _ rfl, hc k e he 2 _ rfl⟩
def enW (e : En) : Nat := e.p.size + e.x.size
def mkW (e : Mk) : Nat := e.p.size + e.x.size
def sumW {α : Type} (f : α → Nat) : List α → Nat
  | [] => 0
  | x :: r => f x + sumW f r
theorem sumW_append {α : Type} (f : α → Nat) (a b : List α) : sumW f (a ++ b) = sumW f a + sumW f b := by
  induction a with
  | nil => simp [sumW]
  | cons x r ih => simp [sumW, ih]; omega
theorem sumW_take {α : Type} (f : α → Nat) (xs : List α) (k : Nat) (e : α) (h : xs[k]? = some e) : sumW f (xs.take (k + 1)) = sumW f (xs.take k) + f e := by
  have hk : k < xs.length := (List.getElem?_eq_some_iff.1 h).1
  have he : xs[k] = e := (List.getElem?_eq_some_iff.1 h).2
  rw [List.take_succ_eq_append_getElem hk, sumW_append, he]
  simp [sumW]
theorem sumW_le {α : Type} (f : α → Nat) (xs : List α) (k : Nat) : sumW f (xs.take k) ≤ sumW f xs := by
  conv => rhs; rw [← List.take_append_drop k xs, sumW_append]
  omega
end Go.Proofs.YtkhbkhibjflgmaaDoor
