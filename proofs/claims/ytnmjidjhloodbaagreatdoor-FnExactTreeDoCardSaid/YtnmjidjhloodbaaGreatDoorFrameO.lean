/- What the rows over an Op share: an argument of that struct opened. Conditions: none. -/
import Derived.Test.YtnmjidjhloodbaaGreatDoorFrameL
import Derived.Test.YtnmjidjhloodbaaGreatDoorB4
import Derived.Lib.SmallJoins
namespace Go.Proofs.YtnmjidjhloodbaaGreatDoor
open Go.ChangeShapes Go.WideShapes Go.ChangeAt Go.RowKit Go.Joins
set_option maxRecDepth 100000 in
theorem op_of {H : Type} {enc : TypeId × Value → H} {W : World} {base : Nat} {v : Value} {d : DataW H} {pl : List MemPlace}
    (hv : Value.okWide Tryz.prog W .any base 24 v) (h : DataW.Trod enc Tryz.prog W 0 (fun _ => true) true 24 v d pl) :
    ∃ (k : Int) (p t dd : ByteArray), v = opV k p t dd ∧ p.size ≤ maxLen ∧ t.size ≤ maxLen ∧ dd.size ≤ maxLen := by
  obtain ⟨v0, v1, v2, v3, y0, y1, y2, y3, n, rfl, _, _, h0, h1, h2, h3⟩ := open_agg4 Tryz.underlying24 (by kernel_rfl) (by kernel_rfl) hv h
  obtain ⟨k, e0, _, _⟩ := DataW.trod_int Tryz.underlying3 h0
  obtain ⟨p, e1, _, hp⟩ := DataW.trod_string Tryz.underlying9 h1
  obtain ⟨t, e2, _, ht⟩ := DataW.trod_string Tryz.underlying9 h2
  obtain ⟨dd, e3, _, hd⟩ := DataW.trod_string Tryz.underlying9 h3
  simp only [List.cons.injEq, and_true] at e0 e1 e2 e3
  subst e0; subst e1; subst e2; subst e3
  exact ⟨k, p, t, dd, rfl, hp, ht, hd⟩
end Go.Proofs.YtnmjidjhloodbaaGreatDoor
