/- The walks of what cuts a text into pieces: the library's Split and Join, the reference's cut. Conditions: a text is short (fewer than a million bytes). -/
import Derived.Test.YtkhbkhibjflgmaaDoorPathA
import Derived.Test.YtkhbkhibjflgmaaDoorShelf
import Derived.Lib.SplitLaws
import Derived.Shelf.Strings.SplitCore
namespace Go.Proofs.YtkhbkhibjflgmaaDoor
open Go.RowKit
theorem index_cons {x : UInt8} {r : Bs} (h : x ≠ 47) (hr : Lib.indexByte r 47 ≠ -1) : Lib.indexByte (x :: r) 47 = Lib.indexByte r 47 + 1 := by
  rw [Lib.indexByte, if_neg (by simpa using h), if_neg (by simpa using hr)]
theorem index_ne {r : Bs} (h : 0 < r.count 47) : Lib.indexByte r 47 ≠ -1 := by
  intro e
  have := Lib.indexByte_none e
  have hm : (47 : UInt8) ∈ r := List.count_pos_iff.1 h
  obtain ⟨k, hk⟩ := List.getElem?_of_mem hm
  exact this k hk
theorem splitK_cut (l : Bs) : Lib.splitK [47] 0 (l.count 47) l = cutL l := by
  induction l with
  | nil => rfl
  | cons x r ih =>
    by_cases h : x = 47
    · subst h
      have hc : (47 :: r : Bs).count 47 = r.count 47 + 1 := by simp
      have hi : Lib.index (47 :: r) [47] = 0 := by rw [Lib.index_one]; simp [Lib.indexByte]
      rw [hc, Lib.splitK, hi]
      simp [cutL, ih]
    · have hc : (x :: r : Bs).count 47 = r.count 47 := by rw [List.count_cons]; simp [h]
      rw [hc]
      rw [cutL, if_neg h, ← ih]
      by_cases h0 : r.count 47 = 0
      · rw [h0]; simp [Lib.splitK]
      · obtain ⟨k, hk⟩ : ∃ k, r.count 47 = k + 1 := ⟨r.count 47 - 1, by omega⟩
        have hn := index_ne (r := r) (by omega)
        have hg := Lib.indexByte_ge r 47
        obtain ⟨i, hi⟩ : ∃ i : Nat, Lib.indexByte r 47 = i := ⟨(Lib.indexByte r 47).toNat, by omega⟩
        have hx : Lib.indexByte (x :: r) 47 = ((i + 1 : Nat) : Int) := by rw [index_cons h hn, hi]; rfl
        rw [hk]
        have e1 : ¬ ((((i + 1 : Nat) : Int) == -1) = true) := by simp; omega
        have e2 : ¬ (((i : Int) == -1) = true) := by simp
        simp only [Lib.splitK, Lib.index_one, hx, hi, if_neg e1, if_neg e2, Int.toNat_natCast, Nat.add_zero, List.take_succ_cons, List.length_singleton, List.drop_succ_cons]
theorem maps_inj {a b : List ByteArray} (h : a.map (·.data.toList) = b.map (·.data.toList)) : a = b := by
  induction a generalizing b with
  | nil => cases b <;> simp_all
  | cons x r ih =>
    cases b with
    | nil => simp at h
    | cons y s =>
      simp only [List.map_cons, List.cons.injEq] at h
      rw [bytes_eq h.1, ih h.2]
set_option maxHeartbeats 1000000 in
theorem split_c (s : ByteArray) (ps : List ByteArray) (hps : Hid (ps.map (·.data.toList) = cutL s.data.toList)) (w : World) (hs : s.size ≤ 1000000) :
    Calls Tryd.prog 131 #[.string s, .string ⟨#[47]⟩] w fun e w' => e = .returned (.slice (some ⟨w.heap.size, 0, none⟩) ps.length ps.length) ∧ w.alloc (.cells (ps.map Value.string).toArray 9) = w' := by
  have hcount : Lib.countB s ⟨#[47]⟩ = s.data.toList.count 47 := by
    show Lib.count s.data.toList [47] = _
    rw [Lib.count_one]
  have hB : Lib.splitB ⟨#[47]⟩ 0 (Lib.countB s ⟨#[47]⟩) s = ps := maps_inj (by rw [Lib.splitB_data, hcount, hps.out]; exact splitK_cut _)
  have hlen := Lib.splitB_all ⟨#[47]⟩ (by decide) 0 _ s rfl
  have hle := Lib.countB_le ⟨#[47]⟩ (by decide) s.size s (Nat.le_refl _)
  have c := Any.strings_genSplit_core Tryd.lays221 (by kernel_rfl) s ⟨#[47]⟩ 0 (-1) (Lib.countB s ⟨#[47]⟩ + 1) w (by omega) (by decide) (Nat.zero_le _)
    (fun x c _ => (Tryd.strings_Index_one x 47 _).mono fun e w' ⟨he, hw⟩ => ⟨by rw [he, ← Lib.index_one], hw⟩)
    ((Tryd.strings_Count_one s 47 w).mono fun e w' ⟨he, hw⟩ => ⟨by rw [he, hcount]; rfl, hw⟩)
    (by decide) (by decide) (by rw [if_pos (by decide)]; omega)
  rw [Nat.add_sub_cancel, hlen] at c
  have e2 : Lib.cellsOf (Lib.splitB ⟨#[47]⟩ 0 (Lib.countB s ⟨#[47]⟩) s) (Lib.countB s ⟨#[47]⟩ + 1) = ((Lib.splitB ⟨#[47]⟩ 0 (Lib.countB s ⟨#[47]⟩) s).map Value.string).toArray := by rw [← hlen]; exact Lib.cellsOf_full _
  rw [e2] at c
  rw [hB] at c hlen
  rw [← hlen] at c
  change Calls Tryd.prog 143 _ _ _ at c
  clear e2 hB hlen hle hcount hps
  go_enter Tryd.func131, Tryd.ntmps131
  go_wp2_with (go_at_call 143; refine c.mono ?_; rintro e w' ⟨rfl, rfl⟩)
  go_ret
  exact ⟨rfl, rfl⟩
end Go.Proofs.YtkhbkhibjflgmaaDoor
