/- The walk of impl.PathMove. Conditions: texts are short enough that their sum is a text. -/
import Derived.Test.YtkhbkhibjflgmaaDoorPathE
namespace Go.Proofs.YtkhbkhibjflgmaaDoor
open Go.RowKit
theorem beqs_no {s t : ByteArray} (h : s.data.toList ≠ t.data.toList) : (s.toList == t.toList) = false := by rw [Lib.toList_data, Lib.toList_data]; simpa using h
theorem beqs_yes {s t : ByteArray} (h : s.data.toList = t.data.toList) : (s.toList == t.toList) = true := by rw [Lib.toList_data, Lib.toList_data]; simpa using h
theorem bnes_no {s t : ByteArray} (h : s.data.toList ≠ t.data.toList) : (s.toList != t.toList) = true := by rw [Lib.toList_data, Lib.toList_data]; simpa using h
theorem under_len {s f : Bs} (h : underL s f = true) (hf : pathOkL f = true) : f.length < s.length := by
  rw [under_eq] at h
  simp only [Bool.and_eq_true, l1UnderL, Bool.or_eq_true, beq_iff_eq] at h
  rcases h.2 with h2 | h2
  · exact absurd h2 (path_ne_root hf)
  · have := (List.isPrefixOf_iff_prefix.1 h2).length_le
    simp at this; omega
end Go.Proofs.YtkhbkhibjflgmaaDoor
