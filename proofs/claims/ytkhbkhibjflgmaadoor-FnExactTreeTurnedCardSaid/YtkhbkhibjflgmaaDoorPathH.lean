/- The walks of the reference's PathUp, PathName, PathJoin, l1Under, PathUnder. Conditions: texts are short. -/
import Derived.Test.YtkhbkhibjflgmaaDoorPathG
namespace Go.Proofs.YtkhbkhibjflgmaaDoor
open Go.RowKit
theorem last_split {l : Bs} (hp : pathOkL l = true) : ∃ (i : List Bs) (n : Bs), NS (i ++ [n]) ∧ l = flat i ++ 47 :: n ∧ upL l = encP i ∧ nameL l = n ∧ (47 : UInt8) ∉ n := by
  obtain ⟨ns, h1, h2, rfl⟩ := (pathOk_iff l).1 hp
  have hs : ns = ns.dropLast ++ [ns.getLast h2] := (List.dropLast_concat_getLast h2).symm
  refine ⟨ns.dropLast, ns.getLast h2, hs ▸ h1, ?_, up_flat h1 h2, ?_, h1.no47 _ (List.getLast_mem h2)⟩
  · conv => lhs; rw [hs]
    simp [flat_append, flat]
  · rw [name_flat h1 h2, List.getLast?_eq_some_getLast h2]; rfl
set_option maxHeartbeats 1000000 in
theorem sPathUp_c (s r : ByteArray) (hr : Hid (upL s.data.toList = r.data.toList)) (w : World) (hs : s.size ≤ maxLen) :
    Calls Tryd.prog 75 #[.string s] w fun e w' => e = .returned (.string r) ∧ Below w.heap.size w w' := by
  cases hp : pathOkL s.data.toList with
  | false =>
    obtain rfl : r = ⟨#[]⟩ := bytes_eq (by rw [← hr.out]; simp [upL, hp])
    have Hp := Lib.hid hp; clear hp
    go_enter Tryd.func75, Tryd.ntmps75
    go_wp2_with (go_at_call 72; refine (sPathOk_c _ _ Hp _ hs).mono ?_; rintro e w' ⟨rfl, hb⟩)
    go_ret
    exact ⟨rfl, hb⟩
  | true =>
    have hlen := path_len hp
    rw [size_data] at hlen
    obtain ⟨i, n, _, hsp, hup, _, hn⟩ := last_split hp
    have HSL := fun W => Lib.hid (l1Slash_c s (flat i) n (Lib.hid hsp) hn W (by omega))
    obtain ⟨h1, _, _⟩ := slash_facts s (flat i) n hsp hn
    have HR0 : Hid ((flat i).length = 0 → r = ⟨#[47]⟩) := fun h0 => by
      refine bytes_eq ?_
      rw [← hr.out, hup]
      have : i = [] := by
        cases i with
        | nil => rfl
        | cons x r => simp [flat] at h0
      subst this; rfl
    have HR1 : Hid ((flat i).length ≠ 0 → r.data.toList = (s.extract 0 (flat i).length).data.toList) := fun h0 => by
      rw [← hr.out, hup, ext_data, hsp, encP, if_neg (by rintro rfl; exact h0 rfl)]
      simp
    have Hp := Lib.hid hp
    obtain ⟨m, hm⟩ : ∃ m, (flat i).length = m := ⟨_, rfl⟩
    rw [hm] at HSL HR0 HR1 h1
    clear hp hsp hup hr hm
    by_cases h0 : m = 0
    · obtain rfl := HR0.out h0
      subst h0
      go_enter Tryd.func75, Tryd.ntmps75
      go_wp2_with fail
      refine (sPathOk_c _ _ Hp _ hs).mono ?_; rintro e w1 ⟨rfl, hb1⟩
      go_wp2_with fail
      refine (HSL _).out.mono ?_; rintro e w2 ⟨rfl, rfl⟩
      go_wp2
      go_ret
      exact ⟨rfl, hb1⟩
    · have hz : ((m : Int) == 0) = false := by rw [beq_eq_false_iff_ne]; omega
      have HR := Lib.hid (HR1.out h0)
      go_enter Tryd.func75, Tryd.ntmps75
      go_wp2_with fail
      refine (sPathOk_c _ _ Hp _ hs).mono ?_; rintro e w1 ⟨rfl, hb1⟩
      go_wp2_with fail
      refine (HSL _).out.mono ?_; rintro e w2 ⟨rfl, rfl⟩
      go_wp2
      go_ret
      exact ⟨ret_str HR.out.symm, hb1⟩
set_option maxHeartbeats 1000000 in
theorem sPathName_c (s r : ByteArray) (hr : Hid (nameL s.data.toList = r.data.toList)) (w : World) (hs : s.size ≤ maxLen) :
    Calls Tryd.prog 130 #[.string s] w fun e w' => e = .returned (.string r) ∧ Below w.heap.size w w' := by
  cases hp : pathOkL s.data.toList with
  | false =>
    obtain rfl : r = ⟨#[]⟩ := bytes_eq (by rw [← hr.out]; simp [nameL, hp])
    have Hp := Lib.hid hp; clear hp
    go_enter Tryd.func130, Tryd.ntmps130
    go_wp2_with (go_at_call 72; refine (sPathOk_c _ _ Hp _ hs).mono ?_; rintro e w' ⟨rfl, hb⟩)
    go_ret
    exact ⟨rfl, hb⟩
  | true =>
    have hlen := path_len hp
    rw [size_data] at hlen
    obtain ⟨i, n, _, hsp, _, hnm, hn⟩ := last_split hp
    have HSL := fun W => Lib.hid (l1Slash_c s (flat i) n (Lib.hid hsp) hn W (by omega))
    obtain ⟨h1, _, _⟩ := slash_facts s (flat i) n hsp hn
    have HR1 : Hid (r.data.toList = (s.extract ((flat i).length + 1) s.size).data.toList) := by
      rw [Hid, ← hr.out, hnm, Lib.extract_to_end, hsp]
      simp
    have Hp := Lib.hid hp
    obtain ⟨m, hm⟩ : ∃ m, (flat i).length = m := ⟨_, rfl⟩
    rw [hm] at HSL HR1 h1
    clear hp hsp hnm hr hm
    go_enter Tryd.func130, Tryd.ntmps130
    go_wp2_with fail
    refine (sPathOk_c _ _ Hp _ hs).mono ?_; rintro e w1 ⟨rfl, hb1⟩
    go_wp2_with fail
    refine (HSL _).out.mono ?_; rintro e w2 ⟨rfl, rfl⟩
    go_wp2
    go_ret
    exact ⟨ret_str HR1.out.symm, hb1⟩
set_option maxHeartbeats 1000000 in
theorem l1Under_c (s d : ByteArray) (r : Bool) (hr : Hid (l1UnderL s.data.toList d.data.toList = r)) (w : World) (_hs : s.size ≤ 2000000) (hd : d.size ≤ 2000000) :
    Calls Tryd.prog 121 #[.string s, .string d] w fun e w' => e = .returned (.bool r) ∧ w = w' := by
  by_cases hroot : d.data.toList = [47]
  · obtain rfl : r = true := by rw [← hr.out]; simp [l1UnderL, hroot]
    have hq := beq_yes hroot
    clear hr hroot
    go_enter Tryd.func121, Tryd.ntmps121
    go_wp2
    go_ret
    exact ⟨rfl, rfl⟩
  · have hq := beq_no hroot
    have HI : Hid (l1UnderL s.data.toList d.data.toList = true ↔ d.data.toList ++ [47] <+: s.data.toList) := by
      have : (d.data.toList == [47]) = false := by simpa using hroot
      simp [Hid, l1UnderL, this]
    have hf : Hid (l1UnderL s.data.toList d.data.toList ≠ true → r = false) := fun h => by rw [← hr.out]; simpa using h
    by_cases hlen : d.size < s.size
    · by_cases he : (s.extract 0 d.size).data.toList = d.data.toList
      · by_cases h47 : s[d.size] = 47
        · obtain rfl : r = true := by
            rw [← hr.out]
            refine HI.out.2 ⟨s.data.toList.drop (d.size + 1), ?_⟩
            rw [ext_data, List.drop_zero] at he
            have h5 : s.data.toList.drop d.size = 47 :: s.data.toList.drop (d.size + 1) := by
              rw [List.drop_eq_getElem_cons (by simpa using hlen), ← h47]; rfl
            rw [← he, List.append_assoc, List.singleton_append, ← h5, List.take_append_drop]
          have hq2 := beqs_yes he
          have hz : ((s[d.size].toNat : Int) == 47) = true := by rw [h47]; rfl
          clear hr hroot hf HI he h47
          go_enter Tryd.func121, Tryd.ntmps121
          go_wp2
          go_ret
          exact ⟨rfl, rfl⟩
        · obtain rfl : r = false := hf.out (fun h => h47 (by
            obtain ⟨x, hx⟩ := HI.out.1 h
            have := get_data s d.size hlen
            rw [← hx, List.append_assoc, List.getElem?_append_right (by simp)] at this
            simpa using this.symm))
          have hq2 := beqs_yes he
          have hz : ((s[d.size].toNat : Int) == 47) = false := by
            rw [beq_eq_false_iff_ne]; intro h; exact h47 (UInt8.toNat_inj.1 (by simpa using Int.ofNat.inj h))
          clear hr hroot hf HI he h47
          go_enter Tryd.func121, Tryd.ntmps121
          go_wp2
          go_ret
          exact ⟨rfl, rfl⟩
      · obtain rfl : r = false := hf.out (fun h => he (by
          obtain ⟨x, hx⟩ := HI.out.1 h
          rw [ext_data, List.drop_zero, ← hx, List.append_assoc, ← size_data d]
          simp))
        have hq2 := beqs_no he
        clear hr hroot hf HI he
        go_enter Tryd.func121, Tryd.ntmps121
        go_wp2
        go_ret
        exact ⟨rfl, rfl⟩
    · obtain rfl : r = false := hf.out (fun h => hlen (by
        have := (HI.out.1 h).length_le
        simp at this; omega))
      clear hr hroot hf HI
      go_enter Tryd.func121, Tryd.ntmps121
      go_wp2
      go_ret
      exact ⟨rfl, rfl⟩
end Go.Proofs.YtkhbkhibjflgmaaDoor
