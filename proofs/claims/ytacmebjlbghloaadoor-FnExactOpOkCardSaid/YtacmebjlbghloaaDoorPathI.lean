/- The walks of the reference's PathJoin, PathUnder, PathMove. Conditions: texts are short. -/
import Derived.Test.YtacmebjlbghloaaDoorPathH
namespace Go.Proofs.YtacmebjlbghloaaDoor
open Go.RowKit
theorem app3_data (d n : ByteArray) : (d ++ ⟨#[47]⟩ ++ n).data.toList = d.data.toList ++ 47 :: n.data.toList := by simp
set_option maxHeartbeats 1000000 in
theorem sPathUnder_c (s d : ByteArray) (r : Bool) (hr : Hid (underL s.data.toList d.data.toList = r)) (w : World) (hs : s.size ≤ 2000000) (hd : d.size ≤ 2000000) :
    Calls Tryd.prog 24 #[.string s, .string d] w fun e w' => e = .returned (.bool r) ∧ Below w.heap.size w w' := by
  have hsm : s.size ≤ maxLen := by unfold maxLen; omega
  have hdm : d.size ≤ maxLen := by unfold maxLen; omega
  have HE := Lib.hid (under_eq s.data.toList d.data.toList)
  cases hp : pathOkL s.data.toList with
  | false =>
    obtain rfl : r = false := by rw [← hr.out]; simp [underL, hp]
    have HP := Lib.hid hp; clear hp hr HE
    go_enter Tryd.func24, Tryd.ntmps24
    go_wp2_with fail
    refine (sPathOk_c _ _ HP _ hsm).mono ?_; rintro e w1 ⟨rfl, hb1⟩
    go_wp2
    go_ret
    exact ⟨rfl, hb1⟩
  | true =>
    by_cases hroot : d.data.toList = [47]
    · have hq := beq_yes hroot
      obtain rfl : r = true := by rw [← hr.out, HE.out]; simp [hp, hroot, l1UnderL]
      have HU : Hid (l1UnderL s.data.toList d.data.toList = true) := by simp [Hid, hroot, l1UnderL]
      have HP := Lib.hid hp; clear hp hr HE hroot
      go_enter Tryd.func24, Tryd.ntmps24
      go_wp2_with fail
      refine (sPathOk_c _ _ HP _ hsm).mono ?_; rintro e w1 ⟨rfl, hb1⟩
      go_wp2_with fail
      refine (l1Under_c _ _ _ HU _ hs hd).mono ?_; rintro e w2 ⟨rfl, rfl⟩
      go_wp2
      go_ret
      exact ⟨rfl, hb1⟩
    · have hq := beq_no hroot
      cases hpd : pathOkL d.data.toList with
      | false =>
        obtain rfl : r = false := by rw [← hr.out]; simp [underL, hpd, hroot]
        have HP := Lib.hid hp
        have HD := Lib.hid hpd; clear hp hpd hr HE hroot
        go_enter Tryd.func24, Tryd.ntmps24
        go_wp2_with fail
        refine (sPathOk_c _ _ HP _ hsm).mono ?_; rintro e w1 ⟨rfl, hb1⟩
        go_wp2_with fail
        refine (sPathOk_c _ _ HD _ hdm).mono ?_; rintro e w2 ⟨rfl, hb2⟩
        go_wp2
        go_ret
        exact ⟨rfl, hb1.trans (hb2.mono hb1.size)⟩
      | true =>
        have HU : Hid (l1UnderL s.data.toList d.data.toList = r) := by rw [Hid, ← hr.out, HE.out]; simp [hp, hpd]
        have HP := Lib.hid hp
        have HD := Lib.hid hpd; clear hp hpd hr HE hroot
        go_enter Tryd.func24, Tryd.ntmps24
        go_wp2_with fail
        refine (sPathOk_c _ _ HP _ hsm).mono ?_; rintro e w1 ⟨rfl, hb1⟩
        go_wp2_with fail
        refine (sPathOk_c _ _ HD _ hdm).mono ?_; rintro e w2 ⟨rfl, hb2⟩
        go_wp2_with fail
        refine (l1Under_c _ _ _ HU _ hs hd).mono ?_; rintro e w3 ⟨rfl, rfl⟩
        go_wp2
        go_ret
        exact ⟨rfl, hb1.trans (hb2.mono hb1.size)⟩
set_option maxHeartbeats 1000000 in
theorem sPathJoin_c (d n r : ByteArray) (ok : Bool) (hr : Hid (joinL d.data.toList n.data.toList = r.data.toList)) (hok : Hid (joinOkL d.data.toList n.data.toList = ok)) (w : World) (hd : d.size ≤ 2000000) (hn : n.size ≤ 2000000) :
    Calls Tryd.prog 26 #[.string d, .string n] w fun e w' => e = .returned (.tuple #[.string r, .bool ok]) ∧ Below w.heap.size w w' := by
  have hnm : n.size ≤ maxLen := by unfold maxLen; omega
  have hdm : d.size ≤ maxLen := by unfold maxLen; omega
  have hf : Hid (joinOkL d.data.toList n.data.toList = false → ok = false ∧ r = ⟨#[]⟩) := fun h =>
    ⟨by rw [← hok.out, h], bytes_eq (by rw [← hr.out, joinL, h]; rfl)⟩
  have HJ := Lib.hid (joinOk_spec d.data.toList n.data.toList)
  by_cases hroot : d.data.toList = [47]
  · obtain rfl : d = ⟨#[47]⟩ := bytes_eq hroot
    obtain ⟨o, ho⟩ : ∃ o : ByteArray, ⟨#[47]⟩ ++ n = o := ⟨_, rfl⟩
    have hod : o.data.toList = 47 :: n.data.toList := by rw [← ho, app_data]; rfl
    have hos : o.size ≤ maxLen := by have e1 : (ByteArray.mk #[47]).size = 1 := rfl; rw [← ho]; unfold maxLen; simp; omega
    have HO := Lib.hid ho; clear ho
    cases hb : nameOkL n.data.toList with
    | false =>
      obtain ⟨rfl, rfl⟩ := hf.out (by simp [joinOkL, hb])
      have HB := Lib.hid hb; clear hb hf hr hok HJ hroot hod
      go_enter Tryd.func26, Tryd.ntmps26
      go_wp2_with (go_at_call 42; refine (l1Name_c _ _ HB _ hnm).mono ?_; rintro e w' ⟨rfl, rfl⟩)
      go_ret2
      exact ⟨rfl, Below.refl _ _⟩
    | true =>
      have hjo : joinOkL (ByteArray.mk #[47]).data.toList n.data.toList = true := by rw [hroot]; simp [joinOkL, hb]
      obtain rfl : ok = true := by rw [← hok.out, hjo]
      obtain rfl : r = o := bytes_eq (by rw [← hr.out, joinL, if_pos hjo, if_pos hroot, hod])
      have hpo : pathOkL r.data.toList = true := by
        have := HJ.out
        rw [hjo] at this
        simp only [Bool.true_eq, Bool.and_eq_true] at this
        rw [hod]; simpa using this.2
      have HB := Lib.hid hb
      have HP := Lib.hid hpo; clear hb hf hr hok HJ hroot hod hjo hpo
      go_enter Tryd.func26, Tryd.ntmps26
      go_wp2_with fail
      rw [HO.out]
      refine (l1Name_c _ _ HB _ hnm).mono ?_; rintro e w1 ⟨rfl, rfl⟩
      go_wp2_with fail
      refine (sPathOk_c _ _ HP _ hos).mono ?_; rintro e w2 ⟨rfl, hb2⟩
      go_wp2
      go_ret2
      exact ⟨rfl, hb2⟩
  · have hq := beq_no hroot
    obtain ⟨o, ho⟩ : ∃ o : ByteArray, d ++ ⟨#[47]⟩ ++ n = o := ⟨_, rfl⟩
    have hod : o.data.toList = d.data.toList ++ 47 :: n.data.toList := by rw [← ho]; exact app3_data d n
    have hos : o.size ≤ maxLen := by have e1 : (ByteArray.mk #[47]).size = 1 := rfl; rw [← ho]; unfold maxLen; simp; omega
    have HO := Lib.hid ho; clear ho
    cases hb : nameOkL n.data.toList with
    | false =>
      obtain ⟨rfl, rfl⟩ := hf.out (by simp [joinOkL, hb])
      have HB := Lib.hid hb; clear hb hf hr hok HJ hroot hod
      go_enter Tryd.func26, Tryd.ntmps26
      go_wp2_with (go_at_call 42; refine (l1Name_c _ _ HB _ hnm).mono ?_; rintro e w' ⟨rfl, rfl⟩)
      go_ret2
      exact ⟨rfl, Below.refl _ _⟩
    | true =>
      have HB := Lib.hid hb
      cases hpd : pathOkL d.data.toList with
      | false =>
        obtain ⟨rfl, rfl⟩ := hf.out (by simp [joinOkL, hpd, hroot])
        have HD := Lib.hid hpd; clear hb hf hr hok HJ hroot hod hpd
        go_enter Tryd.func26, Tryd.ntmps26
        go_wp2_with fail
        rw [HO.out]
        refine (l1Name_c _ _ HB _ hnm).mono ?_; rintro e w1 ⟨rfl, rfl⟩
        go_wp2_with fail
        refine (sPathOk_c _ _ HD _ hdm).mono ?_; rintro e w2 ⟨rfl, hb2⟩
        go_wp2
        go_ret2
        exact ⟨rfl, hb2⟩
      | true =>
        have HD := Lib.hid hpd
        have hjo : joinOkL d.data.toList n.data.toList = pathOkL o.data.toList := by
          rw [HJ.out, hod, if_neg hroot]; simp [hb, hpd]
        cases hpo : pathOkL o.data.toList with
        | false =>
          obtain ⟨rfl, rfl⟩ := hf.out (hjo.trans hpo)
          have HP := Lib.hid hpo; clear hb hf hr hok HJ hroot hod hjo hpo hpd
          go_enter Tryd.func26, Tryd.ntmps26
          go_wp2_with fail
          rw [HO.out]
          refine (l1Name_c _ _ HB _ hnm).mono ?_; rintro e w1 ⟨rfl, rfl⟩
          go_wp2_with fail
          refine (sPathOk_c _ _ HD _ hdm).mono ?_; rintro e w2 ⟨rfl, hb2⟩
          go_wp2_with fail
          refine (sPathOk_c _ _ HP _ hos).mono ?_; rintro e w3 ⟨rfl, hb3⟩
          go_wp2
          go_ret2
          exact ⟨rfl, hb2.trans (hb3.mono hb2.size)⟩
        | true =>
          rw [hpo] at hjo
          obtain rfl : ok = true := by rw [← hok.out, hjo]
          obtain rfl : r = o := bytes_eq (by rw [← hr.out, joinL, if_pos hjo, if_neg hroot, hod])
          have HP := Lib.hid hpo; clear hb hf hr hok HJ hroot hod hjo hpo hpd
          go_enter Tryd.func26, Tryd.ntmps26
          go_wp2_with fail
          rw [HO.out]
          refine (l1Name_c _ _ HB _ hnm).mono ?_; rintro e w1 ⟨rfl, rfl⟩
          go_wp2_with fail
          refine (sPathOk_c _ _ HD _ hdm).mono ?_; rintro e w2 ⟨rfl, hb2⟩
          go_wp2_with fail
          refine (sPathOk_c _ _ HP _ hos).mono ?_; rintro e w3 ⟨rfl, hb3⟩
          go_wp2
          go_ret2
          exact ⟨rfl, hb2.trans (hb3.mono hb2.size)⟩

set_option maxHeartbeats 2000000 in
theorem sPathMove_c (s f t r : ByteArray) (ok : Bool) (hr : Hid (moveL s.data.toList f.data.toList t.data.toList = r.data.toList)) (hok : Hid (moveOkL s.data.toList f.data.toList t.data.toList = ok)) (w : World) (hs : s.size ≤ 2000000) (hf : f.size ≤ 2000000) (ht : t.size ≤ 2000000) :
    Calls Tryd.prog 28 #[.string s, .string f, .string t] w fun e w' => e = .returned (.tuple #[.string r, .bool ok]) ∧ Below w.heap.size w w' := by
  have hsm : s.size ≤ maxLen := by unfold maxLen; omega
  have hfm : f.size ≤ maxLen := by unfold maxLen; omega
  have htm : t.size ≤ maxLen := by unfold maxLen; omega
  have hno : Hid (moveOkL s.data.toList f.data.toList t.data.toList = false → ok = false ∧ r = ⟨#[]⟩) := fun h =>
    ⟨by rw [← hok.out, h], bytes_eq (by rw [← hr.out, moveL, h]; rfl)⟩
  cases hp : pathOkL s.data.toList with
  | false =>
    obtain ⟨rfl, rfl⟩ := hno.out (by simp [moveOkL, hp])
    have HP := Lib.hid hp; clear hp hr hok hno
    go_enter Tryd.func28, Tryd.ntmps28
    go_wp2_with fail
    refine (sPathOk_c _ _ HP _ hsm).mono ?_; rintro e w1 ⟨rfl, hb1⟩
    go_wp2
    go_ret2
    exact ⟨rfl, hb1⟩
  | true =>
  cases hpf : pathOkL f.data.toList with
  | false =>
    obtain ⟨rfl, rfl⟩ := hno.out (by simp [moveOkL, hpf])
    have HP := Lib.hid hp
    have HF := Lib.hid hpf; clear hp hpf hr hok hno
    go_enter Tryd.func28, Tryd.ntmps28
    go_wp2_with fail
    refine (sPathOk_c _ _ HP _ hsm).mono ?_; rintro e w1 ⟨rfl, hb1⟩
    go_wp2_with fail
    refine (sPathOk_c _ _ HF _ hfm).mono ?_; rintro e w2 ⟨rfl, hb2⟩
    go_wp2
    go_ret2
    exact ⟨rfl, hb1.trans (hb2.mono hb1.size)⟩
  | true =>
  cases hpt : pathOkL t.data.toList with
  | false =>
    obtain ⟨rfl, rfl⟩ := hno.out (by simp [moveOkL, hpt])
    have HP := Lib.hid hp
    have HF := Lib.hid hpf
    have HT := Lib.hid hpt; clear hp hpf hpt hr hok hno
    go_enter Tryd.func28, Tryd.ntmps28
    go_wp2_with fail
    refine (sPathOk_c _ _ HP _ hsm).mono ?_; rintro e w1 ⟨rfl, hb1⟩
    go_wp2_with fail
    refine (sPathOk_c _ _ HF _ hfm).mono ?_; rintro e w2 ⟨rfl, hb2⟩
    go_wp2_with fail
    refine (sPathOk_c _ _ HT _ htm).mono ?_; rintro e w3 ⟨rfl, hb3⟩
    go_wp2
    go_ret2
    exact ⟨rfl, (hb1.trans (hb2.mono hb1.size)).trans (hb3.mono (Nat.le_trans hb1.size hb2.size))⟩
  | true =>
  have HP := Lib.hid hp
  have HF := Lib.hid hpf
  have HT := Lib.hid hpt
  have hue : underL s.data.toList f.data.toList = l1UnderL s.data.toList f.data.toList := by rw [under_eq]; simp [hp, hpf]
  by_cases he : s.data.toList = f.data.toList
  · obtain rfl : s = f := bytes_eq he
    have hM : moved s.data.toList s.data.toList t.data.toList = t.data.toList := by
      rw [moved, if_pos (.inl rfl)]; simp
    have hy : moveOkL s.data.toList s.data.toList t.data.toList = true := by simp [moveOkL, hM, hp, hpt]
    obtain rfl : ok = true := by rw [← hok.out, hy]
    obtain rfl : r = t := bytes_eq (by rw [← hr.out, moveL, if_pos hy, hM])
    clear hp hpf hpt hr hok hno he hM hy hue
    go_enter Tryd.func28, Tryd.ntmps28
    go_wp2_with fail
    refine (sPathOk_c _ _ HP _ hsm).mono ?_; rintro e w1 ⟨rfl, hb1⟩
    go_wp2_with fail
    refine (sPathOk_c _ _ HF _ hfm).mono ?_; rintro e w2 ⟨rfl, hb2⟩
    go_wp2_with fail
    refine (sPathOk_c _ _ HT _ htm).mono ?_; rintro e w3 ⟨rfl, hb3⟩
    go_wp2_with fail
    refine (sPathOk_c _ _ HT _ htm).mono ?_; rintro e w4 ⟨rfl, hb4⟩
    go_wp2
    go_ret2
    exact ⟨rfl, ((hb1.trans (hb2.mono hb1.size)).trans (hb3.mono (Nat.le_trans hb1.size hb2.size))).trans (hb4.mono (Nat.le_trans hb1.size (Nat.le_trans hb2.size hb3.size)))⟩
  · have hq := beqs_no he
    cases hu : underL s.data.toList f.data.toList with
    | false =>
      have hM : moved s.data.toList f.data.toList t.data.toList = s.data.toList := by rw [moved, if_neg (by simp [he, hu])]
      have hy : moveOkL s.data.toList f.data.toList t.data.toList = true := by simp [moveOkL, hM, hp, hpf, hpt]
      obtain rfl : ok = true := by rw [← hok.out, hy]
      obtain rfl : r = s := bytes_eq (by rw [← hr.out, moveL, if_pos hy, hM])
      have HU := Lib.hid (hue.symm.trans hu); clear hp hpf hpt hr hok hno he hM hy hu hue
      go_enter Tryd.func28, Tryd.ntmps28
      go_wp2_with fail
      refine (sPathOk_c _ _ HP _ hsm).mono ?_; rintro e w1 ⟨rfl, hb1⟩
      go_wp2_with fail
      refine (sPathOk_c _ _ HF _ hfm).mono ?_; rintro e w2 ⟨rfl, hb2⟩
      go_wp2_with fail
      refine (sPathOk_c _ _ HT _ htm).mono ?_; rintro e w3 ⟨rfl, hb3⟩
      go_wp2_with fail
      refine (l1Under_c _ _ _ HU _ hs hf).mono ?_; rintro e w4 ⟨rfl, rfl⟩
      go_wp2
      go_ret2
      exact ⟨rfl, ((hb1.trans (hb2.mono hb1.size)).trans (hb3.mono (Nat.le_trans hb1.size hb2.size)))⟩
    | true =>
      have hlen : f.size < s.size := by have := under_len hu hpf; rwa [size_data, size_data] at this
      have hM : Hid ((t ++ s.extract f.size s.size).data.toList = moved s.data.toList f.data.toList t.data.toList) := by
        rw [Hid, moved, if_pos (.inr hu), app_data, Lib.extract_to_end, size_data]
      obtain ⟨m, hm⟩ : ∃ m, t ++ s.extract f.size s.size = m := ⟨_, rfl⟩
      have hms : m.size ≤ 4000000 := by rw [← hm]; simp; omega
      have hmm : m.size ≤ maxLen := by unfold maxLen; omega
      rw [hm] at hM
      have HM := Lib.hid hm; clear hm
      have HU := Lib.hid (hue.symm.trans hu)
      cases hpm : pathOkL m.data.toList with
      | false =>
        obtain ⟨rfl, rfl⟩ := hno.out (by simp [moveOkL, ← hM.out, hpm])
        have HPM := Lib.hid hpm; clear hp hpf hpt hpm hr hok hno he hM hu hue
        go_enter Tryd.func28, Tryd.ntmps28
        go_wp2_with fail
        refine (sPathOk_c _ _ HP _ hsm).mono ?_; rintro e w1 ⟨rfl, hb1⟩
        go_wp2_with fail
        refine (sPathOk_c _ _ HF _ hfm).mono ?_; rintro e w2 ⟨rfl, hb2⟩
        go_wp2_with fail
        refine (sPathOk_c _ _ HT _ htm).mono ?_; rintro e w3 ⟨rfl, hb3⟩
        go_wp2_with fail
        refine (l1Under_c _ _ _ HU _ hs hf).mono ?_; rintro e w4 ⟨rfl, rfl⟩
        go_wp2_with fail
        rw [HM.out]
        refine (sPathOk_c _ _ HPM _ hmm).mono ?_; rintro e w5 ⟨rfl, hb5⟩
        go_wp2
        go_ret2
        exact ⟨rfl, (((hb1.trans (hb2.mono hb1.size)).trans (hb3.mono (Nat.le_trans hb1.size hb2.size)))).trans (hb5.mono (Nat.le_trans hb1.size (Nat.le_trans hb2.size hb3.size)))⟩
      | true =>
        have hy : moveOkL s.data.toList f.data.toList t.data.toList = true := by simp [moveOkL, ← hM.out, hpm, hp, hpf, hpt]
        obtain rfl : ok = true := by rw [← hok.out, hy]
        obtain rfl : r = m := bytes_eq (by rw [← hr.out, moveL, if_pos hy, hM.out])
        have HPM := Lib.hid hpm; clear hp hpf hpt hpm hr hok hno he hM hy hu hue
        go_enter Tryd.func28, Tryd.ntmps28
        go_wp2_with fail
        refine (sPathOk_c _ _ HP _ hsm).mono ?_; rintro e w1 ⟨rfl, hb1⟩
        go_wp2_with fail
        refine (sPathOk_c _ _ HF _ hfm).mono ?_; rintro e w2 ⟨rfl, hb2⟩
        go_wp2_with fail
        refine (sPathOk_c _ _ HT _ htm).mono ?_; rintro e w3 ⟨rfl, hb3⟩
        go_wp2_with fail
        refine (l1Under_c _ _ _ HU _ hs hf).mono ?_; rintro e w4 ⟨rfl, rfl⟩
        go_wp2_with fail
        rw [HM.out]
        refine (sPathOk_c _ _ HPM _ hmm).mono ?_; rintro e w5 ⟨rfl, hb5⟩
        go_wp2
        go_ret2
        exact ⟨rfl, (((hb1.trans (hb2.mono hb1.size)).trans (hb3.mono (Nat.le_trans hb1.size hb2.size)))).trans (hb5.mono (Nat.le_trans hb1.size (Nat.le_trans hb2.size hb3.size)))⟩
end Go.Proofs.YtacmebjlbghloaaDoor
