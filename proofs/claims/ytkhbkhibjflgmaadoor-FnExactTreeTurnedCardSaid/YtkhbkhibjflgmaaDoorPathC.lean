/- The walks of impl.pathNames and of what asks it. Conditions: a text is short where it is cut, which the function itself asks. -/
import Derived.Test.YtkhbkhibjflgmaaDoorCut
namespace Go.Proofs.YtkhbkhibjflgmaaDoor
open Go.RowKit
theorem strs_cell (w : World) (ps : List ByteArray) (t : TypeId) (k : Nat) (h : k < ps.length) : (w.alloc (.cells (ps.map Value.string).toArray t)).cell? ⟨w.heap.size, k, none⟩ = some (.string (ps[k]?.getD ByteArray.empty)) := by
  rw [cell_of_row _ _ k _ t (0, 0) (heap_alloc_new w _)]
  simp [h]
theorem head_of (s : ByteArray) (h : 0 < s.size) : s.data.toList.head? = some s[0] := by
  have := get_data s 0 h
  rw [List.head?_eq_getElem?]; exact this
theorem tail_of (s : ByteArray) : (s.extract 1 s.size).data.toList = s.data.toList.tail := by
  rw [Lib.extract_to_end, List.drop_one]
theorem pathOk_parts (l : Bs) : pathOkL l = true ↔ l.length ≤ 12 ∧ l.head? = some 47 ∧ (cutL l.tail).length ≤ 3 ∧ ∀ n ∈ cutL l.tail, nameOkL n = true := by
  simp [pathOkL, and_assoc]
theorem strs_of (l : List Bs) : ∃ ps : List ByteArray, ps.map (·.data.toList) = l := ⟨l.map fun x => ⟨x.toArray⟩, by simp [Function.comp_def]⟩
theorem cut_len {l n : Bs} (h : n ∈ cutL l) : n.length ≤ l.length := by
  induction l generalizing n with
  | nil => simp [cutL] at h; simp [h]
  | cons x r ih =>
    unfold cutL at h
    split at h
    · rcases List.mem_cons.1 h with h | h
      · simp [h]
      · have := ih h; simp; omega
    · split at h
      · simp at h; simp [h]
      · next p ps hc =>
        rcases List.mem_cons.1 h with h | h
        · have := ih (n := p) (by rw [hc]; simp); simp [h]; omega
        · have := ih (n := n) (by rw [hc]; simp [h]); simp; omega
set_option maxHeartbeats 1000000 in
theorem pathNames_no (s : ByteArray) (hr : Hid (pathOkL s.data.toList = false)) (w : World) (hs : s.size ≤ maxLen) :
    Calls Tryd.prog 105 #[.string s] w fun e w' => e = .returned (.tuple #[.slice none 0 0, .bool false]) ∧ Below w.heap.size w w' := by
  unfold maxLen at hs
  by_cases h0 : s.size = 0
  · obtain ⟨⟨l⟩⟩ := s
    have : l = [] := List.eq_nil_of_length_eq_zero h0
    subst this
    clear hr h0
    go_enter Tryd.func105, Tryd.ntmps105
    go_wp2
    go_ret2
    exact ⟨rfl, Below.refl _ _⟩
  have h1 : 0 < s.size := by omega
  have hne : s.toList.isEmpty = false := by rw [Lib.toList_data]; have := size_data s; cases h : s.data.toList with
    | nil => rw [h] at this; simp at this; omega
    | cons _ _ => rfl
  have HP : Hid (pathOkL s.data.toList = true ↔ s.size ≤ 12 ∧ s[0] = 47 ∧ (cutL s.data.toList.tail).length ≤ 3 ∧ ∀ n ∈ cutL s.data.toList.tail, nameOkL n = true) := by
    have := pathOk_parts s.data.toList
    rw [head_of s h1, size_data s] at this
    simp only [Option.some.injEq] at this; exact this
  by_cases h47 : s[0] = 47
  · by_cases h12 : 12 < s.size
    · have hz : (s[0].toNat : Int) = 47 := by rw [h47]; rfl
      clear hr HP h47
      go_enter Tryd.func105, Tryd.ntmps105
      go_wp2
      go_ret2
      exact ⟨rfl, Below.refl _ _⟩
    · obtain ⟨ps, hps⟩ := strs_of (cutL s.data.toList.tail)
      have Hps : Hid (ps.map (·.data.toList) = cutL (s.extract 1 s.size).data.toList) := by rw [tail_of]; exact hps
      have HR : Hid (ps.length ≤ 3 → ∃ k, ∃ h : k < ps.length, nameOkL ps[k].data.toList = false) := fun h3 => by
        have hf := hr.out
        cases hx : decide (∀ n ∈ cutL s.data.toList.tail, nameOkL n = true) with
        | true =>
          rw [HP.out.2 ⟨by omega, h47, by rw [← hps]; simpa using h3, of_decide_eq_true hx⟩] at hf
          cases hf
        | false =>
          have hx' := of_decide_eq_false hx
          rw [← hps] at hx'
          simp only [List.mem_map, forall_exists_index, and_imp, forall_apply_eq_imp_iff₂, Classical.not_forall] at hx'
          obtain ⟨x, hx1, hx2⟩ := hx'
          obtain ⟨k, hk, rfl⟩ := List.getElem_of_mem hx1
          exact ⟨k, hk, by simpa using hx2⟩
      have HS : Hid (ps.all (fun x => decide (x.size ≤ 12)) = true) := by
        rw [Hid, List.all_eq_true]
        intro x hx
        have : x.data.toList ∈ cutL s.data.toList.tail := by rw [← hps]; exact List.mem_map_of_mem hx
        have := cut_len this
        have h5 := size_data s
        simp at this h5 ⊢
        omega
      have hz : (s[0].toNat : Int) = 47 := by rw [h47]; rfl
      clear hr HP h47 hps
      by_cases h3 : 3 < ps.length
      · clear HR HS
        go_enter Tryd.func105, Tryd.ntmps105
        go_wp2_with (go_at_call 131; refine (split_c _ ps Hps _ (by simp; omega)).mono ?_; rintro e w' ⟨rfl, rfl⟩)
        go_ret2
        exact ⟨rfl, bellow_alloc _ _⟩
      · go_enter Tryd.func105, Tryd.ntmps105
        go_wp2_with (go_at_call 131; refine (split_c _ ps Hps _ (by simp; omega)).mono ?_; rintro e W ⟨rfl, hW⟩; have HW := Lib.hid hW; clear hW)
        go_loop [6, 27] (fun nm i => ∃ k : Nat, k ≤ ps.length ∧ i = .int .i64 k ∧ (∀ j (h : j < ps.length), j < k → nameOkL ps[j].data.toList = true)) (fun nm i => ps.length - (intOf i).toNat)
        case atStart => exact ⟨0, Nat.zero_le _, rfl, fun j _ h => absurd h (by omega)⟩
        case round =>
          obtain ⟨k, hk, rfl, hall⟩ := hrel
          have HA := Lib.hid hall; clear hall
          by_cases hlt : k < ps.length
          · have hc : W.cell? ⟨w.heap.size, k, none⟩ = some (.string ps[k]) := by
              rw [← HW.out, strs_cell w ps _ k hlt]; simp [hlt]
            have hsz : ps[k].size ≤ maxLen := by
              have := List.all_eq_true.1 HS.out ps[k] (List.getElem_mem hlt)
              simp at this; unfold maxLen; omega
            cases hn : nameOkL ps[k].data.toList with
            | true =>
              have HN := Lib.hid hn; clear hn
              go_wp2_with (go_at_call 107; refine (nameOk_c _ true HN _ hsz).mono ?_; rintro e w' ⟨rfl, rfl⟩)
              go_round
              case rel => exact ⟨k + 1, by omega, by go_num, fun j hj h => by
                by_cases e : j = k
                · subst e; exact HN.out
                · exact HA.out j hj (by omega)⟩
              case measure => simp [intOf]; omega
            | false =>
              have HN := Lib.hid hn; clear hn
              go_wp2_with (go_at_call 107; refine (nameOk_c _ false HN _ hsz).mono ?_; rintro e w' ⟨rfl, rfl⟩)
              go_ret2
              exact ⟨rfl, HW.out ▸ bellow_alloc _ _⟩
          · obtain ⟨j, hj, hjf⟩ := HR.out (by omega)
            rw [HA.out j hj (by omega)] at hjf
            cases hjf
  · have hz : ((s[0].toNat : Int) != 47) = true := by
      rw [bne_iff_ne]; intro h; exact h47 (UInt8.toNat_inj.1 (by simpa using Int.ofNat.inj h))
    clear hr HP h47
    go_enter Tryd.func105, Tryd.ntmps105
    go_wp2
    go_ret2
    exact ⟨rfl, Below.refl _ _⟩

set_option maxHeartbeats 1000000 in
theorem pathNames_yes (s : ByteArray) (ps : List ByteArray) (hr : Hid (pathOkL s.data.toList = true)) (hps : Hid (ps.map (·.data.toList) = cutL s.data.toList.tail)) (w : World) :
    Calls Tryd.prog 105 #[.string s] w fun e w' => e = .returned (.tuple #[.slice (some ⟨w.heap.size, 0, none⟩) ps.length ps.length, .bool true]) ∧ w.alloc (.cells (ps.map Value.string).toArray 9) = w' := by
  have hP := (pathOk_parts s.data.toList).1 hr.out
  have hsz := path_len hr.out
  rw [size_data] at hP hsz
  obtain ⟨h12, hhead, h3, hall⟩ := hP
  have h1 : 0 < s.size := by omega
  rw [head_of s h1] at hhead
  have h47 : s[0] = 47 := Option.some.inj hhead
  have hz : (s[0].toNat : Int) = 47 := by rw [h47]; rfl
  have hne : s.toList.isEmpty = false := by rw [Lib.toList_data]; have := size_data s; cases h : s.data.toList with
    | nil => rw [h] at this; simp at this; omega
    | cons _ _ => rfl
  have Hps : Hid (ps.map (·.data.toList) = cutL (s.extract 1 s.size).data.toList) := by rw [tail_of]; exact hps.out
  have HN : Hid (∀ k, (h : k < ps.length) → nameOkL ps[k].data.toList = true) := fun k h => hall _ (by rw [← hps.out]; exact List.mem_map_of_mem (List.getElem_mem h))
  have hl : ps.length ≤ 3 := by rw [← hps.out] at h3; simpa using h3
  clear hall h3 hhead h47 hr hps
  go_enter Tryd.func105, Tryd.ntmps105
  go_wp2_with (go_at_call 131; refine (split_c _ ps Hps _ (by simp; omega)).mono ?_; rintro e W ⟨rfl, hW⟩; have HW := Lib.hid hW; clear hW)
  go_loop [6, 27] (fun nm i => ∃ k : Nat, k ≤ ps.length ∧ i = .int .i64 k) (fun nm i => ps.length - (intOf i).toNat)
  case atStart => exact ⟨0, Nat.zero_le _, rfl⟩
  case round =>
    obtain ⟨k, hk, rfl⟩ := hrel
    by_cases hlt : k < ps.length
    · have hc : W.cell? ⟨w.heap.size, k, none⟩ = some (.string ps[k]) := by
        rw [← HW.out, strs_cell w ps _ k hlt]; simp [hlt]
      have Hn := Lib.hid (HN.out k hlt)
      have hsz : ps[k].size ≤ maxLen := by
        have := ((nameOkL_iff _).1 Hn.out).2.1
        rw [size_data] at this
        unfold maxLen; omega
      go_wp2_with (go_at_call 107; refine (nameOk_c _ true Hn _ hsz).mono ?_; rintro e w' ⟨rfl, rfl⟩)
      go_round
      case rel => exact ⟨k + 1, by omega, by go_num⟩
      case measure => simp [intOf]; omega
    · go_wp2
      go_ret2
      exact ⟨rfl, HW.out⟩
/-- Either way, with what a caller wants of it. -/
theorem pathOk_c (s : ByteArray) (r : Bool) (hr : Hid (pathOkL s.data.toList = r)) (w : World) (hs : s.size ≤ maxLen) :
    Calls Tryd.prog 61 #[.string s] w fun e w' => e = .returned (.bool r) ∧ Below w.heap.size w w' := by
  cases r with
  | false =>
    go_enter Tryd.func61, Tryd.ntmps61
    go_wp2_with (go_at_call 105; refine (pathNames_no s hr _ hs).mono ?_; rintro e w' ⟨rfl, hb⟩)
    go_ret
    exact ⟨rfl, hb⟩
  | true =>
    obtain ⟨ps, hps⟩ := strs_of (cutL s.data.toList.tail)
    have Hps := Lib.hid hps; clear hps
    go_enter Tryd.func61, Tryd.ntmps61
    go_wp2_with (go_at_call 105; refine (pathNames_yes s ps hr Hps _).mono ?_; rintro e w' ⟨rfl, hb⟩; have HB := Lib.hid hb; clear hb)
    go_ret
    exact ⟨rfl, HB.out ▸ bellow_alloc _ _⟩
theorem pathLevels_c (s : ByteArray) (r : Nat) (hr : Hid (levelsL s.data.toList = r)) (w : World) (hs : s.size ≤ maxLen) :
    Calls Tryd.prog 108 #[.string s] w fun e w' => e = .returned (.int .i64 r) ∧ Below w.heap.size w w' := by
  cases hp : pathOkL s.data.toList with
  | false =>
    obtain rfl : r = 0 := by rw [← hr.out]; simp [levelsL, hp]
    have Hp := Lib.hid hp; clear hp
    go_enter Tryd.func108, Tryd.ntmps108
    go_wp2_with (go_at_call 105; refine (pathNames_no s Hp _ hs).mono ?_; rintro e w' ⟨rfl, hb⟩)
    go_ret
    exact ⟨rfl, hb⟩
  | true =>
    obtain ⟨ps, hps⟩ := strs_of (cutL s.data.toList.tail)
    obtain rfl : r = ps.length := by rw [← hr.out]; simp [levelsL, hp, ← hps]
    have Hp := Lib.hid hp; clear hp
    have Hps := Lib.hid hps; clear hps
    go_enter Tryd.func108, Tryd.ntmps108
    go_wp2_with (go_at_call 105; refine (pathNames_yes s ps Hp Hps _).mono ?_; rintro e w' ⟨rfl, hb⟩; have HB := Lib.hid hb; clear hb)
    go_ret
    exact ⟨rfl, HB.out ▸ bellow_alloc _ _⟩
end Go.Proofs.YtkhbkhibjflgmaaDoor
