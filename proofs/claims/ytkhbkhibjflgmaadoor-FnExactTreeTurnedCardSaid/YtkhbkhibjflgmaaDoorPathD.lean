/- The walks of impl.PathUp and impl.PathName. Conditions: a text is no longer than any text can be. -/
import Derived.Test.YtkhbkhibjflgmaaDoorPathC
namespace Go.Proofs.YtkhbkhibjflgmaaDoor
open Go.RowKit
theorem inter_flat (ns : List Bs) (h : ns ≠ []) : 47 :: Lib.join ns [47] = flat ns := by
  induction ns with
  | nil => exact absurd rfl h
  | cons n r ih =>
    cases r with
    | nil => simp [Lib.join, flat]
    | cons m r =>
      have h2 := ih (by simp)
      have : Lib.join (n :: m :: r) [47] = n ++ 47 :: Lib.join (m :: r) [47] := by simp [Lib.join, List.intercalate]
      rw [this, h2]; rfl
theorem inter_encP (ns : List Bs) : 47 :: Lib.join ns [47] = encP ns := by
  by_cases h : ns = []
  · subst h; rfl
  · rw [encP, if_neg h, inter_flat ns h]
set_option maxHeartbeats 1000000 in
theorem pathUp_c (s : ByteArray) (r : ByteArray) (hr : Hid (upL s.data.toList = r.data.toList)) (w : World) (hs : s.size ≤ maxLen) :
    Calls Tryd.prog 56 #[.string s] w fun e w' => e = .returned (.string r) ∧ Below w.heap.size w w' := by
  cases hp : pathOkL s.data.toList with
  | false =>
    obtain rfl : r = ⟨#[]⟩ := bytes_eq (by rw [← hr.out]; simp [upL, hp])
    have Hp := Lib.hid hp; clear hp
    go_enter Tryd.func56, Tryd.ntmps56
    go_wp2_with (go_at_call 105; refine (pathNames_no s Hp _ hs).mono ?_; rintro e w' ⟨rfl, hb⟩)
    go_ret
    exact ⟨rfl, hb⟩
  | true =>
    obtain ⟨ps, hps⟩ := strs_of (cutL s.data.toList.tail)
    have hn := (pathOk_names hp)
    have h1 : 0 < ps.length := by
      rcases Nat.eq_zero_or_pos ps.length with h | h
      · have : ps = [] := List.eq_nil_of_length_eq_zero h
        subst this
        exact absurd hps.symm hn.2.1
      · exact h
    have h3 : ps.length ≤ 3 := by have := hn.1.1; rw [← hps] at this; simpa using this
    have hR : Hid (r.data.toList = 47 :: Lib.join (ps.dropLast.map (·.data.toList)) [47]) := by
      rw [Hid, inter_encP, List.map_dropLast, hps, ← hr.out, upL, if_pos hp]
    have hlen12 : (Lib.join (ps.dropLast.map (·.data.toList)) [47]).length ≤ 12 := by
      have h4 := inter_encP (ps.dropLast.map (·.data.toList))
      have h5 : (encP (ps.dropLast.map (·.data.toList))).length ≤ 12 := by
        rw [List.map_dropLast, hps]
        unfold encP
        split
        · simp
        · have h6 := (flat_len hn.1.dropLast.2).1
          have h7 := hn.1.dropLast.1
          omega
      rw [← h4] at h5
      simp only [List.length_cons] at h5
      omega
    have hlen : (Lib.join (ps.dropLast.map (·.data.toList)) [47]).length ≤ 140737488355328 := by omega
    obtain ⟨j, hj⟩ : ∃ j : ByteArray, j = ⟨(Lib.join (ps.dropLast.map (·.data.toList)) [47]).toArray⟩ := ⟨_, rfl⟩
    have hjs : j.size ≤ 12 := by rw [hj, ← size_data]; exact hlen12
    have hR' : Hid (r.data.toList = 47 :: j.data.toList) := by rw [hR.out, hj]; rfl
    clear hlen12 hR
    have Hp := Lib.hid hp; clear hp
    have Hps := Lib.hid hps; clear hps hn hr
    have hdl : ps.dropLast.length = ps.length - 1 := by simp
    obtain ⟨m, hm⟩ : ∃ m, ps.length = m + 1 := ⟨ps.length - 1, by omega⟩
    have hdm : ps.dropLast.length = m := by omega
    clear hdl
    have hJ := fun (W : World) hc hbk => Tryd.strings_Join w.heap.size 0 ps.length ps.dropLast ⟨#[47]⟩ W hc hbk (by omega) (by omega) hlen
    have e47 : (ByteArray.mk #[47]).data.toList = [47] := rfl
    rw [e47, ← hj] at hJ
    clear hj
    rw [hdm, hm] at hJ
    have HJ := Lib.hid hJ; clear hJ
    have HM := Lib.hid hm; clear hm hlen
    have HD := Lib.hid hdm; clear hdm
    have hy := pathNames_yes s ps Hp Hps w
    rw [HM.out] at hy
    have HY := Lib.hid hy; clear hy
    have hm2 : m + 1 ≤ 3 := by rw [← HM.out]; exact h3
    clear h1 h3
    go_enter Tryd.func56, Tryd.ntmps56
    go_wp2_with (go_at_call 105; refine HY.out.mono ?_; rintro e W ⟨rfl, hW⟩; have HB := Lib.hid hW; clear hW)
    refine (HJ.out W ?_ ?_).mono ?_
    · intro j x hj
      have hl : j < ps.dropLast.length := (List.getElem?_eq_some_iff.1 hj).1
      have hl' : j < ps.length := by simp at hl; omega
      rw [Nat.zero_add, ← HB.out, strs_cell w ps _ j hl']
      have : ps[j]? = some x := by rw [← hj, List.getElem?_dropLast, if_pos (by simp at hl; omega)]
      rw [this]; rfl
    · rw [← HB.out]; simp
    · rintro e w2 ⟨rfl, hb⟩
      have HJB : Hid (Below w.heap.size w w2) := by
        have h1 := bellow_alloc w (.cells (ps.map Value.string).toArray 9)
        rw [HB.out] at h1
        exact h1.trans (hb.mono (by rw [← HB.out]; simp))
      clear hb
      go_wp2
      go_ret
      exact ⟨ret_str (by rw [hR'.out]; simp), HJB.out⟩
set_option maxHeartbeats 1000000 in
theorem pathName_c (s : ByteArray) (r : ByteArray) (hr : Hid (nameL s.data.toList = r.data.toList)) (w : World) (hs : s.size ≤ maxLen) :
    Calls Tryd.prog 58 #[.string s] w fun e w' => e = .returned (.string r) ∧ Below w.heap.size w w' := by
  cases hp : pathOkL s.data.toList with
  | false =>
    obtain rfl : r = ⟨#[]⟩ := bytes_eq (by rw [← hr.out]; simp [nameL, hp])
    have Hp := Lib.hid hp; clear hp
    go_enter Tryd.func58, Tryd.ntmps58
    go_wp2_with (go_at_call 105; refine (pathNames_no s Hp _ hs).mono ?_; rintro e w' ⟨rfl, hb⟩)
    go_ret
    exact ⟨rfl, hb⟩
  | true =>
    obtain ⟨ps, hps⟩ := strs_of (cutL s.data.toList.tail)
    have hn := (pathOk_names hp)
    have h1 : 0 < ps.length := by
      rcases Nat.eq_zero_or_pos ps.length with h | h
      · have : ps = [] := List.eq_nil_of_length_eq_zero h
        subst this
        exact absurd hps.symm hn.2.1
      · exact h
    have h3 : ps.length ≤ 3 := by have := hn.1.1; rw [← hps] at this; simpa using this
    obtain ⟨m, hm⟩ : ∃ m, ps.length = m + 1 := ⟨ps.length - 1, by omega⟩
    have hR : ps[m]? = some r := by
      have h2 : ps[m]? = some ps[m] := List.getElem?_eq_getElem (by omega)
      rw [h2]
      refine congrArg some (bytes_eq ?_)
      rw [← hr.out, nameL, if_pos hp, ← hps, List.getLast?_eq_getElem?, List.length_map]
      simp [hm]
    have hy := pathNames_yes s ps (Lib.hid hp) (Lib.hid hps) w
    rw [hm] at hy
    have HY := Lib.hid hy; clear hy
    have HC : Hid (∀ W, w.alloc (.cells (ps.map Value.string).toArray 9) = W → W.cell? ⟨w.heap.size, m, none⟩ = some (.string r)) := fun W hW => by
      rw [← hW, strs_cell w ps _ m (by omega), hR]; rfl
    have hm2 : m + 1 ≤ 3 := by omega
    clear hp hps hn hr hR h1 h3 hm
    go_enter Tryd.func58, Tryd.ntmps58
    go_wp2_with (go_at_call 105; refine HY.out.mono ?_; rintro e W ⟨rfl, hW⟩; have hc := HC.out W hW; have HB := Lib.hid hW; clear hW)
    go_ret
    exact ⟨rfl, HB.out ▸ bellow_alloc _ _⟩
end Go.Proofs.YtkhbkhibjflgmaaDoor
