/- The walks of more laws of paths: descent, moves. Conditions: none beyond what can be read. -/
import Derived.Test.YtacmebjlbghloaaDoorLawsP
namespace Go.Proofs.YtacmebjlbghloaaDoor
open Go.RowKit
set_option maxHeartbeats 2000000 in
theorem lawPathUnder_w (w : World) (a : Option Addr) (n c : Nat) (a' : Option Addr) (n' c' : Nat) (h : Code w a n c) (h' : Code w a' n' c') : Calls Tryd.prog 16 #[.slice a n c, .slice a' n' c'] w (TrueB w) := by
  have hn := h.2.2
  have hn' := h'.2.2
  by_cases hbig : 1048576 < n
  · clear h h'
    go_enter Tryd.func16, Tryd.ntmps16
    go_wp2
    go_ret
    exact ⟨rfl, Below.refl _ _⟩
  by_cases hbig' : 1048576 < n'
  · clear h h'
    go_enter Tryd.func16, Tryd.ntmps16
    go_wp2
    go_ret
    exact ⟨rfl, Below.refl _ _⟩
  have HD := Lib.hid (drawPathUnder_c w a n c h)
  have HC := Lib.hid h'
  clear h h'
  go_enter Tryd.func16, Tryd.ntmps16
  go_wp2_with fail
  refine HD.out.mono ?_; rintro e W ⟨s, d, rfl, hs, hd, hb⟩
  have HD2 := Lib.hid (drawPathUnder_c W a' n' c' (HC.out.below hb))
  go_wp2_with fail
  refine HD2.out.mono ?_; rintro e W ⟨t, u, rfl, ht, hu, hq⟩; replace hb := chn hb hq; clear hq
  have hs2 := le20' hs
  have hd2 := le20' hd
  have ht2 := le20' ht
  have hsm := le20 hs
  obtain ⟨up, hup, hus⟩ := up_str s
  have hup2 := le20' hus
  have HUU := Lib.hid (fun h => under_up (a := s.data.toList) (b := d.data.toList) h)
  have HR : Hid (pathOkL s.data.toList = true → underL s.data.toList (ByteArray.mk #[47]).data.toList = true) := fun h => under_root h
  cases hx : underL s.data.toList d.data.toList with
  | true =>
    have hp := under_path hx
    have HA := Lib.hid (under_anti hx)
    have HX := Lib.hid hx
    have HP := Lib.hid hp
    have HR' := Lib.hid (HR.out hp)
    have hor := (HUU.out hp).symm.trans hx
    rw [hup.out] at hor
    have HT := Lib.hid (fun h => under_trans hx (c := t.data.toList) h)
    clear hx hp
    go_wp2_with fail
    refine (pathUnder_c s d true HX _ hs2 hd2).mono ?_; rintro e W ⟨rfl, hq⟩; replace hb := chn hb hq; clear hq
    go_wp2_with fail
    refine (sPathUnder_c s d true HX _ hs2 hd2).mono ?_; rintro e W ⟨rfl, hq⟩; replace hb := chn hb hq; clear hq
    go_wp2_with fail
    refine (pathOk_c s true HP _ hsm).mono ?_; rintro e W ⟨rfl, hq⟩; replace hb := chn hb hq; clear hq
    go_wp2_with fail
    refine (sPathOk_c s true HP _ hsm).mono ?_; rintro e W ⟨rfl, hq⟩; replace hb := chn hb hq; clear hq
    go_wp2_with fail
    refine (pathUnder_c d s false HA _ hd2 hs2).mono ?_; rintro e W ⟨rfl, hq⟩; replace hb := chn hb hq; clear hq
    go_wp2_with fail
    refine (pathOk_c s true HP _ hsm).mono ?_; rintro e W ⟨rfl, hq⟩; replace hb := chn hb hq; clear hq
    cases hy : underL d.data.toList t.data.toList with
    | true =>
      have HT' := Lib.hid (HT.out hy)
      have HY := Lib.hid hy
      clear hy
      go_wp2_with fail
      refine (pathUnder_c d t true HY _ hd2 ht2).mono ?_; rintro e W ⟨rfl, hq⟩; replace hb := chn hb hq; clear hq
      go_wp2_with fail
      refine (pathUnder_c s t true HT' _ hs2 ht2).mono ?_; rintro e W ⟨rfl, hq⟩; replace hb := chn hb hq; clear hq
      go_wp2_with fail
      refine (pathOk_c s true HP _ hsm).mono ?_; rintro e W ⟨rfl, hq⟩; replace hb := chn hb hq; clear hq
      go_wp2_with fail
      refine (pathUp_c s up hup _ hsm).mono ?_; rintro e W ⟨rfl, hq⟩; replace hb := chn hb hq; clear hq
      by_cases he : d.data.toList = up.data.toList
      · have q := beqs_yes he
        clear hor he
        go_wp2_with fail
        refine (pathUnder_c s ⟨#[47]⟩ true HR' _ hs2 (by decide)).mono ?_; rintro e W ⟨rfl, hq⟩; replace hb := chn hb hq; clear hq
        go_wp2
        go_ret
        exact ⟨rfl, hb⟩
      · have q := beqs_no he
        have HV : Hid (underL up.data.toList d.data.toList = true) := by
          have h := hor
          simp only [Bool.or_eq_true, beq_iff_eq] at h
          exact h.resolve_left he
        clear hor he
        go_wp2_with fail
        refine (pathUnder_c up d true HV _ hup2 hd2).mono ?_; rintro e W ⟨rfl, hq⟩; replace hb := chn hb hq; clear hq
        go_wp2_with fail
        refine (pathUnder_c s ⟨#[47]⟩ true HR' _ hs2 (by decide)).mono ?_; rintro e W ⟨rfl, hq⟩; replace hb := chn hb hq; clear hq
        go_wp2
        go_ret
        exact ⟨rfl, hb⟩
    | false =>
      have HY := Lib.hid hy
      clear hy
      go_wp2_with fail
      refine (pathUnder_c d t false HY _ hd2 ht2).mono ?_; rintro e W ⟨rfl, hq⟩; replace hb := chn hb hq; clear hq
      go_wp2_with fail
      refine (pathOk_c s true HP _ hsm).mono ?_; rintro e W ⟨rfl, hq⟩; replace hb := chn hb hq; clear hq
      go_wp2_with fail
      refine (pathUp_c s up hup _ hsm).mono ?_; rintro e W ⟨rfl, hq⟩; replace hb := chn hb hq; clear hq
      by_cases he : d.data.toList = up.data.toList
      · have q := beqs_yes he
        clear hor he
        go_wp2_with fail
        refine (pathUnder_c s ⟨#[47]⟩ true HR' _ hs2 (by decide)).mono ?_; rintro e W ⟨rfl, hq⟩; replace hb := chn hb hq; clear hq
        go_wp2
        go_ret
        exact ⟨rfl, hb⟩
      · have q := beqs_no he
        have HV : Hid (underL up.data.toList d.data.toList = true) := by
          have h := hor
          simp only [Bool.or_eq_true, beq_iff_eq] at h
          exact h.resolve_left he
        clear hor he
        go_wp2_with fail
        refine (pathUnder_c up d true HV _ hup2 hd2).mono ?_; rintro e W ⟨rfl, hq⟩; replace hb := chn hb hq; clear hq
        go_wp2_with fail
        refine (pathUnder_c s ⟨#[47]⟩ true HR' _ hs2 (by decide)).mono ?_; rintro e W ⟨rfl, hq⟩; replace hb := chn hb hq; clear hq
        go_wp2
        go_ret
        exact ⟨rfl, hb⟩
  | false =>
    have HX := Lib.hid hx
    cases hp : pathOkL s.data.toList with
    | false =>
      have HP := Lib.hid hp
      clear hp hx
      go_wp2_with fail
      refine (pathUnder_c s d false HX _ hs2 hd2).mono ?_; rintro e W ⟨rfl, hq⟩; replace hb := chn hb hq; clear hq
      go_wp2_with fail
      refine (sPathUnder_c s d false HX _ hs2 hd2).mono ?_; rintro e W ⟨rfl, hq⟩; replace hb := chn hb hq; clear hq
      go_wp2_with fail
      refine (pathOk_c s false HP _ hsm).mono ?_; rintro e W ⟨rfl, hq⟩; replace hb := chn hb hq; clear hq
      go_wp2_with fail
      refine (sPathOk_c s false HP _ hsm).mono ?_; rintro e W ⟨rfl, hq⟩; replace hb := chn hb hq; clear hq
      go_wp2_with fail
      refine (pathOk_c s false HP _ hsm).mono ?_; rintro e W ⟨rfl, hq⟩; replace hb := chn hb hq; clear hq
      go_wp2
      go_ret
      exact ⟨rfl, hb⟩
    | true =>
      have HP := Lib.hid hp
      have hor := (HUU.out hp).symm.trans hx
      rw [hup.out] at hor
      have HR' := Lib.hid (HR.out hp)
      simp only [Bool.or_eq_false_iff, beq_eq_false_iff_ne] at hor
      have q := beqs_no (s := d) (t := up) hor.1
      have HV : Hid (underL up.data.toList d.data.toList = false) := hor.2
      clear hp hx hor
      go_wp2_with fail
      refine (pathUnder_c s d false HX _ hs2 hd2).mono ?_; rintro e W ⟨rfl, hq⟩; replace hb := chn hb hq; clear hq
      go_wp2_with fail
      refine (sPathUnder_c s d false HX _ hs2 hd2).mono ?_; rintro e W ⟨rfl, hq⟩; replace hb := chn hb hq; clear hq
      go_wp2_with fail
      refine (pathOk_c s true HP _ hsm).mono ?_; rintro e W ⟨rfl, hq⟩; replace hb := chn hb hq; clear hq
      go_wp2_with fail
      refine (sPathOk_c s true HP _ hsm).mono ?_; rintro e W ⟨rfl, hq⟩; replace hb := chn hb hq; clear hq
      go_wp2_with fail
      refine (pathOk_c s true HP _ hsm).mono ?_; rintro e W ⟨rfl, hq⟩; replace hb := chn hb hq; clear hq
      go_wp2_with fail
      refine (pathUp_c s up hup _ hsm).mono ?_; rintro e W ⟨rfl, hq⟩; replace hb := chn hb hq; clear hq
      go_wp2_with fail
      refine (pathUnder_c up d false HV _ hup2 hd2).mono ?_; rintro e W ⟨rfl, hq⟩; replace hb := chn hb hq; clear hq
      go_wp2_with fail
      refine (pathUnder_c s ⟨#[47]⟩ true HR' _ hs2 (by decide)).mono ?_; rintro e W ⟨rfl, hq⟩; replace hb := chn hb hq; clear hq
      go_wp2
      go_ret
      exact ⟨rfl, hb⟩
set_option maxHeartbeats 2000000 in
theorem lawPathMove_w (w : World) (a : Option Addr) (n c : Nat) (h : Code w a n c) : Calls Tryd.prog 13 #[.slice a n c] w (TrueB w) := by
  have hn := h.2.2
  by_cases hbig : 1048576 < n
  · clear h
    go_enter Tryd.func13, Tryd.ntmps13
    go_wp2
    go_ret
    exact ⟨rfl, Below.refl _ _⟩
  have HD := Lib.hid (drawPathMove_c w a n c h)
  clear h
  go_enter Tryd.func13, Tryd.ntmps13
  go_wp2_with fail
  refine HD.out.mono ?_; rintro e W ⟨s, f, t, rfl, hs, hf, ht, hb⟩
  have hs2 := le20' hs
  have hf2 := le20' hf
  have ht2 := le20' ht
  obtain ⟨x, hx⟩ := str_of' (moveL s.data.toList f.data.toList t.data.toList)
  have HX := Lib.hid hx
  cases ho : moveOkL s.data.toList f.data.toList t.data.toList with
  | false =>
    obtain rfl : x = ⟨#[]⟩ := bytes_eq (by rw [← hx, moveL, ho]; rfl)
    have HO := Lib.hid ho
    clear ho hx
    go_wp2_with fail
    refine (pathMove_c s f t ⟨#[]⟩ false HX HO _ hs2 hf2 ht2).mono ?_; rintro e W ⟨rfl, hq⟩; replace hb := chn hb hq; clear hq
    go_wp2_with fail
    refine (sPathMove_c s f t ⟨#[]⟩ false HX HO _ hs2 hf2 ht2).mono ?_; rintro e W ⟨rfl, hq⟩; replace hb := chn hb hq; clear hq
    go_wp2
    go_ret
    exact ⟨rfl, hb⟩
  | true =>
    have HO := Lib.hid ho
    have hxl : x.size ≤ 20 := by
      have : pathOkL (moved s.data.toList f.data.toList t.data.toList) = true := by
        have h := ho
        simp only [moveOkL, Bool.and_eq_true] at h
        exact h.2
      have h3 := path_len this
      rw [← size_data, ← hx, moveL, if_pos ho]; omega
    have hx2 := le20' hxl
    have hxm := le20 hxl
    have hsm := le20 hs
    by_cases hm : s.data.toList = f.data.toList ∨ underL s.data.toList f.data.toList = true
    · obtain ⟨h1, h2, h3, h4⟩ := law_move ho hm
      rw [hx] at h1 h2 h3 h4
      have HB := Lib.hid h1
      have HS := Lib.hid h2
      by_cases he : s.data.toList = f.data.toList
      · have q1 := beqs_yes he
        have q2 := beqs_yes (h3.2 he)
        clear ho hx hm h1 h2 h3 h4 he
        go_wp2_with fail
        refine (pathMove_c s f t x true HX HO _ hs2 hf2 ht2).mono ?_; rintro e W ⟨rfl, hq⟩; replace hb := chn hb hq; clear hq
        go_wp2_with fail
        refine (sPathMove_c s f t x true HX HO _ hs2 hf2 ht2).mono ?_; rintro e W ⟨rfl, hq⟩; replace hb := chn hb hq; clear hq
        go_wp2_with fail
        refine (pathMove_c x t f s true HS HB _ hx2 ht2 hf2).mono ?_; rintro e W ⟨rfl, hq⟩; replace hb := chn hb hq; clear hq
        go_wp2
        go_ret
        exact ⟨rfl, hb⟩
      · have q1 := beqs_no he
        have q2 := beqs_no (s := x) (t := t) (fun h => he (h3.1 h))
        have HU : Hid (underL s.data.toList f.data.toList = true) := hm.resolve_left he
        have HV := Lib.hid (h4 he).1
        obtain ⟨m, hm1, _⟩ := name_str s
        have HN := Lib.hid ((h4 he).2.trans hm1.out)
        clear ho hx hm h1 h2 h3 h4 he
        go_wp2_with fail
        refine (pathMove_c s f t x true HX HO _ hs2 hf2 ht2).mono ?_; rintro e W ⟨rfl, hq⟩; replace hb := chn hb hq; clear hq
        go_wp2_with fail
        refine (sPathMove_c s f t x true HX HO _ hs2 hf2 ht2).mono ?_; rintro e W ⟨rfl, hq⟩; replace hb := chn hb hq; clear hq
        go_wp2_with fail
        refine (pathUnder_c s f true HU _ hs2 hf2).mono ?_; rintro e W ⟨rfl, hq⟩; replace hb := chn hb hq; clear hq
        go_wp2_with fail
        refine (pathMove_c x t f s true HS HB _ hx2 ht2 hf2).mono ?_; rintro e W ⟨rfl, hq⟩; replace hb := chn hb hq; clear hq
        go_wp2_with fail
        refine (pathUnder_c x t true HV _ hx2 ht2).mono ?_; rintro e W ⟨rfl, hq⟩; replace hb := chn hb hq; clear hq
        go_wp2_with fail
        refine (pathName_c x m HN _ hxm).mono ?_; rintro e W ⟨rfl, hq⟩; replace hb := chn hb hq; clear hq
        go_wp2_with fail
        refine (pathName_c s m hm1 _ hsm).mono ?_; rintro e W ⟨rfl, hq⟩; replace hb := chn hb hq; clear hq
        go_wp2
        go_ret
        exact ⟨rfl, hb⟩
    · have hst := move_stay ho hm
      obtain rfl : x = s := bytes_eq (by rw [← hx, hst])
      simp only [not_or, Bool.not_eq_true] at hm
      have q1 := beqs_no hm.1
      have HU := Lib.hid hm.2
      clear ho hx hm hst
      go_wp2_with fail
      refine (pathMove_c x f t x true HX HO _ hs2 hf2 ht2).mono ?_; rintro e W ⟨rfl, hq⟩; replace hb := chn hb hq; clear hq
      go_wp2_with fail
      refine (sPathMove_c x f t x true HX HO _ hs2 hf2 ht2).mono ?_; rintro e W ⟨rfl, hq⟩; replace hb := chn hb hq; clear hq
      go_wp2_with fail
      refine (pathUnder_c x f false HU _ hs2 hf2).mono ?_; rintro e W ⟨rfl, hq⟩; replace hb := chn hb hq; clear hq
      go_wp2
      go_ret
      exact ⟨rfl, hb⟩
set_option maxHeartbeats 2000000 in
theorem lawPathVia_w (w : World) (a : Option Addr) (n c : Nat) (a' : Option Addr) (n' c' : Nat) (h : Code w a n c) (h' : Code w a' n' c') : Calls Tryd.prog 12 #[.slice a n c, .slice a' n' c'] w (TrueB w) := by
  have hn := h.2.2
  have hn' := h'.2.2
  by_cases hbig : 1048576 < n
  · clear h h'
    go_enter Tryd.func12, Tryd.ntmps12
    go_wp2
    go_ret
    exact ⟨rfl, Below.refl _ _⟩
  by_cases hbig' : 1048576 < n'
  · clear h h'
    go_enter Tryd.func12, Tryd.ntmps12
    go_wp2
    go_ret
    exact ⟨rfl, Below.refl _ _⟩
  have HD := Lib.hid (drawPathMove_c w a n c h)
  have HC := Lib.hid h'
  clear h h'
  go_enter Tryd.func12, Tryd.ntmps12
  go_wp2_with fail
  refine HD.out.mono ?_; rintro e W ⟨s, f, t, rfl, hs, hf, ht, hb⟩
  have HD2 := Lib.hid (drawPathMove_c W a' n' c' (HC.out.below hb))
  go_wp2_with fail
  refine HD2.out.mono ?_; rintro e W ⟨s', f', v, rfl, _, _, hv, hq⟩; replace hb := chn hb hq; clear hq
  have hs2 := le20' hs
  have hf2 := le20' hf
  have ht2 := le20' ht
  have hv2 := le20' hv
  obtain ⟨x, hx⟩ := str_of' (moveL s.data.toList f.data.toList t.data.toList)
  obtain ⟨y, hy⟩ := str_of' (moveL s.data.toList f.data.toList v.data.toList)
  have HX := Lib.hid hx
  have HY := Lib.hid hy
  obtain ⟨ok, ho⟩ : ∃ ok, moveOkL s.data.toList f.data.toList t.data.toList = ok := ⟨_, rfl⟩
  have HO := Lib.hid ho
  cases hp : moveOkL s.data.toList f.data.toList v.data.toList with
  | false =>
    have HP := Lib.hid hp
    clear hp hx hy ho
    cases ok
    all_goals
      go_wp2_with fail
      refine (pathMove_c s f t x _ HX HO _ hs2 hf2 ht2).mono ?_; rintro e W ⟨rfl, hq⟩; replace hb := chn hb hq; clear hq
      go_wp2_with fail
      refine (sPathMove_c s f t x _ HX HO _ hs2 hf2 ht2).mono ?_; rintro e W ⟨rfl, hq⟩; replace hb := chn hb hq; clear hq
      go_wp2_with fail
      refine (pathMove_c s f v y false HY HP _ hs2 hf2 hv2).mono ?_; rintro e W ⟨rfl, hq⟩; replace hb := chn hb hq; clear hq
      go_wp2
      go_ret
      exact ⟨rfl, hb⟩
  | true =>
    have HP := Lib.hid hp
    have hyl : y.size ≤ 20 := by
      have : pathOkL (moved s.data.toList f.data.toList v.data.toList) = true := by
        have h := hp
        simp only [moveOkL, Bool.and_eq_true] at h
        exact h.2
      have h3 := path_len this
      rw [← size_data, ← hy, moveL, if_pos hp]; omega
    have hy2 := le20' hyl
    by_cases hm : s.data.toList = f.data.toList ∨ underL s.data.toList f.data.toList = true
    · have hZ : moveOkL y.data.toList v.data.toList t.data.toList = ok ∧ moveL y.data.toList v.data.toList t.data.toList = x.data.toList := by
        cases htp : pathOkL t.data.toList with
        | false =>
          rw [via_bad htp] at ho
          refine ⟨by rw [via_bad htp, ho], ?_⟩
          have e1 : ∀ s f, moveL s f t.data.toList = [] := fun s f => by simp [moveL, via_bad htp]
          rw [← hx, e1, e1]
        | true =>
          have := law_via hp htp hm
          rw [hy, hx, ho] at this
          exact this
      have HZ1 := Lib.hid hZ.1
      have HZ2 := Lib.hid hZ.2
      by_cases he : s.data.toList = f.data.toList
      · have q1 := beqs_yes he
        clear hp hx hy ho hm hZ he
        cases ok
        all_goals
          go_wp2_with fail
          refine (pathMove_c s f t x _ HX HO _ hs2 hf2 ht2).mono ?_; rintro e W ⟨rfl, hq⟩; replace hb := chn hb hq; clear hq
          go_wp2_with fail
          refine (sPathMove_c s f t x _ HX HO _ hs2 hf2 ht2).mono ?_; rintro e W ⟨rfl, hq⟩; replace hb := chn hb hq; clear hq
          go_wp2_with fail
          refine (pathMove_c s f v y true HY HP _ hs2 hf2 hv2).mono ?_; rintro e W ⟨rfl, hq⟩; replace hb := chn hb hq; clear hq
          go_wp2_with fail
          refine (pathMove_c y v t x _ HZ2 HZ1 _ hy2 hv2 ht2).mono ?_; rintro e W ⟨rfl, hq⟩; replace hb := chn hb hq; clear hq
          go_wp2
          go_ret
          exact ⟨rfl, hb⟩
      · have q1 := beqs_no he
        have HU : Hid (underL s.data.toList f.data.toList = true) := hm.resolve_left he
        clear hp hx hy ho hm hZ he
        cases ok
        all_goals
          go_wp2_with fail
          refine (pathMove_c s f t x _ HX HO _ hs2 hf2 ht2).mono ?_; rintro e W ⟨rfl, hq⟩; replace hb := chn hb hq; clear hq
          go_wp2_with fail
          refine (sPathMove_c s f t x _ HX HO _ hs2 hf2 ht2).mono ?_; rintro e W ⟨rfl, hq⟩; replace hb := chn hb hq; clear hq
          go_wp2_with fail
          refine (pathMove_c s f v y true HY HP _ hs2 hf2 hv2).mono ?_; rintro e W ⟨rfl, hq⟩; replace hb := chn hb hq; clear hq
          go_wp2_with fail
          refine (pathUnder_c s f true HU _ hs2 hf2).mono ?_; rintro e W ⟨rfl, hq⟩; replace hb := chn hb hq; clear hq
          go_wp2_with fail
          refine (pathMove_c y v t x _ HZ2 HZ1 _ hy2 hv2 ht2).mono ?_; rintro e W ⟨rfl, hq⟩; replace hb := chn hb hq; clear hq
          go_wp2
          go_ret
          exact ⟨rfl, hb⟩
    · simp only [not_or, Bool.not_eq_true] at hm
      have q1 := beqs_no hm.1
      have HU := Lib.hid hm.2
      clear hp hx hy ho hm
      cases ok
      all_goals
        go_wp2_with fail
        refine (pathMove_c s f t x _ HX HO _ hs2 hf2 ht2).mono ?_; rintro e W ⟨rfl, hq⟩; replace hb := chn hb hq; clear hq
        go_wp2_with fail
        refine (sPathMove_c s f t x _ HX HO _ hs2 hf2 ht2).mono ?_; rintro e W ⟨rfl, hq⟩; replace hb := chn hb hq; clear hq
        go_wp2_with fail
        refine (pathMove_c s f v y true HY HP _ hs2 hf2 hv2).mono ?_; rintro e W ⟨rfl, hq⟩; replace hb := chn hb hq; clear hq
        go_wp2_with fail
        refine (pathUnder_c s f false HU _ hs2 hf2).mono ?_; rintro e W ⟨rfl, hq⟩; replace hb := chn hb hq; clear hq
        go_wp2
        go_ret
        exact ⟨rfl, hb⟩

theorem root_size : (ByteArray.mk #[47]).size ≤ 2000000 := by decide
theorem less_of (a b : ByteArray) : Op.bytesLess a.toList b.toList = Op.bytesLess a.data.toList b.data.toList := by rw [Lib.toList_data, Lib.toList_data]
set_option maxHeartbeats 2000000 in
theorem lawPathOrder_w (w : World) (a : Option Addr) (n c : Nat) (a' : Option Addr) (n' c' : Nat) (h : Code w a n c) (h' : Code w a' n' c') : Calls Tryd.prog 10 #[.slice a n c, .slice a' n' c'] w (TrueB w) := by
  have hn := h.2.2
  have hn' := h'.2.2
  by_cases hbig : 1048576 < n
  · clear h h'
    go_enter Tryd.func10, Tryd.ntmps10
    go_wp2
    go_ret
    exact ⟨rfl, Below.refl _ _⟩
  by_cases hbig' : 1048576 < n'
  · clear h h'
    go_enter Tryd.func10, Tryd.ntmps10
    go_wp2
    go_ret
    exact ⟨rfl, Below.refl _ _⟩
  have HD := Lib.hid (drawPathUnder_c w a n c h)
  have HC := Lib.hid h'
  clear h h'
  go_enter Tryd.func10, Tryd.ntmps10
  go_wp2_with fail
  refine HD.out.mono ?_; rintro e W ⟨s, d, rfl, hs, hd, hb⟩
  have HD2 := Lib.hid (drawPathUnder_c W a' n' c' (HC.out.below hb))
  go_wp2_with fail
  refine HD2.out.mono ?_; rintro e W ⟨t, u, rfl, ht, hu, hq⟩; replace hb := chn hb hq; clear hq
  have hs2 := le20' hs
  have hd2 := le20' hd
  have ht2 := le20' ht
  have hsm := le20 hs
  have hdm := le20 hd
  have htm := le20 ht
  obtain ⟨x, hx⟩ : ∃ x, underL s.data.toList d.data.toList = x := ⟨_, rfl⟩
  obtain ⟨p1, hp1⟩ : ∃ x, pathOkL s.data.toList = x := ⟨_, rfl⟩
  obtain ⟨p2, hp2⟩ : ∃ x, pathOkL d.data.toList = x := ⟨_, rfl⟩
  obtain ⟨p3, hp3⟩ : ∃ x, pathOkL t.data.toList = x := ⟨_, rfl⟩
  have HX := Lib.hid hx
  have H1 := Lib.hid hp1
  have H2 := Lib.hid hp2
  have H3 := Lib.hid hp3
  go_wp2_with fail
  refine (pathUnder_c s d x HX _ hs2 hd2).mono ?_; rintro e W ⟨rfl, hq⟩; replace hb := chn hb hq; clear hq
  cases p1 with
  | false =>
    clear hx hp1 hp2 hp3
    cases x <;> cases p2
    all_goals
      go_wp2_with fail
      refine (sPathUnder_c s d _ HX _ hs2 hd2).mono ?_; rintro e W ⟨rfl, hq⟩; replace hb := chn hb hq; clear hq
      go_wp2_with fail
      refine (pathOk_c s false H1 _ hsm).mono ?_; rintro e W ⟨rfl, hq⟩; replace hb := chn hb hq; clear hq
      go_wp2_with fail
      refine (sPathOk_c s false H1 _ hsm).mono ?_; rintro e W ⟨rfl, hq⟩; replace hb := chn hb hq; clear hq
      go_wp2_with fail
      refine (pathOk_c d _ H2 _ hdm).mono ?_; rintro e W ⟨rfl, hq⟩; replace hb := chn hb hq; clear hq
      go_wp2_with fail
      refine (sPathOk_c d _ H2 _ hdm).mono ?_; rintro e W ⟨rfl, hq⟩; replace hb := chn hb hq; clear hq
      go_wp2_with fail
      refine (pathOk_c s false H1 _ hsm).mono ?_; rintro e W ⟨rfl, hq⟩; replace hb := chn hb hq; clear hq
      go_wp2
      go_ret
      exact ⟨rfl, hb⟩
  | true =>
  cases p2 with
  | false =>
    clear hx hp1 hp2 hp3
    cases x
    all_goals
      go_wp2_with fail
      refine (sPathUnder_c s d _ HX _ hs2 hd2).mono ?_; rintro e W ⟨rfl, hq⟩; replace hb := chn hb hq; clear hq
      go_wp2_with fail
      refine (pathOk_c s true H1 _ hsm).mono ?_; rintro e W ⟨rfl, hq⟩; replace hb := chn hb hq; clear hq
      go_wp2_with fail
      refine (sPathOk_c s true H1 _ hsm).mono ?_; rintro e W ⟨rfl, hq⟩; replace hb := chn hb hq; clear hq
      go_wp2_with fail
      refine (pathOk_c d _ H2 _ hdm).mono ?_; rintro e W ⟨rfl, hq⟩; replace hb := chn hb hq; clear hq
      go_wp2_with fail
      refine (sPathOk_c d _ H2 _ hdm).mono ?_; rintro e W ⟨rfl, hq⟩; replace hb := chn hb hq; clear hq
      go_wp2_with fail
      refine (pathOk_c s true H1 _ hsm).mono ?_; rintro e W ⟨rfl, hq⟩; replace hb := chn hb hq; clear hq
      go_wp2_with fail
      refine (pathOk_c d false H2 _ hdm).mono ?_; rintro e W ⟨rfl, hq⟩; replace hb := chn hb hq; clear hq
      go_wp2
      go_ret
      exact ⟨rfl, hb⟩
  | true =>
  cases p3 with
  | false =>
    clear hx hp1 hp2 hp3
    cases x
    all_goals
      go_wp2_with fail
      refine (sPathUnder_c s d _ HX _ hs2 hd2).mono ?_; rintro e W ⟨rfl, hq⟩; replace hb := chn hb hq; clear hq
      go_wp2_with fail
      refine (pathOk_c s true H1 _ hsm).mono ?_; rintro e W ⟨rfl, hq⟩; replace hb := chn hb hq; clear hq
      go_wp2_with fail
      refine (sPathOk_c s true H1 _ hsm).mono ?_; rintro e W ⟨rfl, hq⟩; replace hb := chn hb hq; clear hq
      go_wp2_with fail
      refine (pathOk_c d true H2 _ hdm).mono ?_; rintro e W ⟨rfl, hq⟩; replace hb := chn hb hq; clear hq
      go_wp2_with fail
      refine (sPathOk_c d true H2 _ hdm).mono ?_; rintro e W ⟨rfl, hq⟩; replace hb := chn hb hq; clear hq
      go_wp2_with fail
      refine (pathOk_c s true H1 _ hsm).mono ?_; rintro e W ⟨rfl, hq⟩; replace hb := chn hb hq; clear hq
      go_wp2_with fail
      refine (pathOk_c d true H2 _ hdm).mono ?_; rintro e W ⟨rfl, hq⟩; replace hb := chn hb hq; clear hq
      go_wp2_with fail
      refine (pathOk_c t false H3 _ htm).mono ?_; rintro e W ⟨rfl, hq⟩; replace hb := chn hb hq; clear hq
      go_wp2
      go_ret
      exact ⟨rfl, hb⟩
  | true =>
  cases x with
  | false =>
    clear hx hp1 hp2 hp3
    go_wp2_with fail
    refine (sPathUnder_c s d _ HX _ hs2 hd2).mono ?_; rintro e W ⟨rfl, hq⟩; replace hb := chn hb hq; clear hq
    go_wp2_with fail
    refine (pathOk_c s true H1 _ hsm).mono ?_; rintro e W ⟨rfl, hq⟩; replace hb := chn hb hq; clear hq
    go_wp2_with fail
    refine (sPathOk_c s true H1 _ hsm).mono ?_; rintro e W ⟨rfl, hq⟩; replace hb := chn hb hq; clear hq
    go_wp2_with fail
    refine (pathOk_c d true H2 _ hdm).mono ?_; rintro e W ⟨rfl, hq⟩; replace hb := chn hb hq; clear hq
    go_wp2_with fail
    refine (sPathOk_c d true H2 _ hdm).mono ?_; rintro e W ⟨rfl, hq⟩; replace hb := chn hb hq; clear hq
    go_wp2_with fail
    refine (pathOk_c s true H1 _ hsm).mono ?_; rintro e W ⟨rfl, hq⟩; replace hb := chn hb hq; clear hq
    go_wp2_with fail
    refine (pathOk_c d true H2 _ hdm).mono ?_; rintro e W ⟨rfl, hq⟩; replace hb := chn hb hq; clear hq
    go_wp2_with fail
    refine (pathOk_c t true H3 _ htm).mono ?_; rintro e W ⟨rfl, hq⟩; replace hb := chn hb hq; clear hq
    go_wp2
    go_ret
    exact ⟨rfl, hb⟩
  | true =>
    have q1 : Op.bytesLess d.toList s.toList = true := by rw [less_of]; exact under_less hx hp2
    by_cases hle : Op.bytesLess d.data.toList t.data.toList = true
    · have q2 : Op.bytesLess t.toList d.toList = false := by rw [less_of]; exact less_asymm hle
      have q3 : (t.toList == d.toList) = false := beqs_no (fun e => less_ne hle e.symm)
      cases hlt : Op.bytesLess t.data.toList s.data.toList with
      | true =>
        have q4 : Op.bytesLess t.toList s.toList = true := by rw [less_of]; exact hlt
        have HU := Lib.hid (between_under hx hp2 hp3 hle hlt)
        clear hx hp1 hp2 hp3 hle hlt
        go_wp2_with fail
        refine (sPathUnder_c s d _ HX _ hs2 hd2).mono ?_; rintro e W ⟨rfl, hq⟩; replace hb := chn hb hq; clear hq
        go_wp2_with fail
        refine (pathOk_c s true H1 _ hsm).mono ?_; rintro e W ⟨rfl, hq⟩; replace hb := chn hb hq; clear hq
        go_wp2_with fail
        refine (sPathOk_c s true H1 _ hsm).mono ?_; rintro e W ⟨rfl, hq⟩; replace hb := chn hb hq; clear hq
        go_wp2_with fail
        refine (pathOk_c d true H2 _ hdm).mono ?_; rintro e W ⟨rfl, hq⟩; replace hb := chn hb hq; clear hq
        go_wp2_with fail
        refine (sPathOk_c d true H2 _ hdm).mono ?_; rintro e W ⟨rfl, hq⟩; replace hb := chn hb hq; clear hq
        go_wp2_with fail
        refine (pathOk_c s true H1 _ hsm).mono ?_; rintro e W ⟨rfl, hq⟩; replace hb := chn hb hq; clear hq
        go_wp2_with fail
        refine (pathOk_c d true H2 _ hdm).mono ?_; rintro e W ⟨rfl, hq⟩; replace hb := chn hb hq; clear hq
        go_wp2_with fail
        refine (pathOk_c t true H3 _ htm).mono ?_; rintro e W ⟨rfl, hq⟩; replace hb := chn hb hq; clear hq
        go_wp2_with fail
        refine (pathUnder_c t d true HU _ ht2 hd2).mono ?_; rintro e W ⟨rfl, hq⟩; replace hb := chn hb hq; clear hq
        go_wp2
        go_ret
        exact ⟨rfl, hb⟩
      | false =>
        have q4 : Op.bytesLess t.toList s.toList = false := by rw [less_of]; exact hlt
        clear hx hp1 hp2 hp3 hle hlt
        go_wp2_with fail
        refine (sPathUnder_c s d _ HX _ hs2 hd2).mono ?_; rintro e W ⟨rfl, hq⟩; replace hb := chn hb hq; clear hq
        go_wp2_with fail
        refine (pathOk_c s true H1 _ hsm).mono ?_; rintro e W ⟨rfl, hq⟩; replace hb := chn hb hq; clear hq
        go_wp2_with fail
        refine (sPathOk_c s true H1 _ hsm).mono ?_; rintro e W ⟨rfl, hq⟩; replace hb := chn hb hq; clear hq
        go_wp2_with fail
        refine (pathOk_c d true H2 _ hdm).mono ?_; rintro e W ⟨rfl, hq⟩; replace hb := chn hb hq; clear hq
        go_wp2_with fail
        refine (sPathOk_c d true H2 _ hdm).mono ?_; rintro e W ⟨rfl, hq⟩; replace hb := chn hb hq; clear hq
        go_wp2_with fail
        refine (pathOk_c s true H1 _ hsm).mono ?_; rintro e W ⟨rfl, hq⟩; replace hb := chn hb hq; clear hq
        go_wp2_with fail
        refine (pathOk_c d true H2 _ hdm).mono ?_; rintro e W ⟨rfl, hq⟩; replace hb := chn hb hq; clear hq
        go_wp2_with fail
        refine (pathOk_c t true H3 _ htm).mono ?_; rintro e W ⟨rfl, hq⟩; replace hb := chn hb hq; clear hq
        go_wp2
        go_ret
        exact ⟨rfl, hb⟩
    · have hor : Op.bytesLess t.data.toList d.data.toList = true ∨ t.data.toList = d.data.toList := by
        rcases less_total t.data.toList d.data.toList with h | h | h
        · exact .inl h
        · exact .inr h
        · exact absurd h hle
      have q2 : (Op.bytesLess t.toList d.toList || t.toList == d.toList) = true := by
        rw [less_of, Bool.or_eq_true]
        exact hor.imp id beqs_yes
      have q3 : Op.bytesLess t.toList d.toList = true ∨ (t.toList == d.toList) = true := by
        rw [less_of]
        exact hor.imp id beqs_yes
      clear hx hp1 hp2 hp3 hle hor
      rcases q3 with q3 | q3
      all_goals
        go_wp2_with fail
        refine (sPathUnder_c s d _ HX _ hs2 hd2).mono ?_; rintro e W ⟨rfl, hq⟩; replace hb := chn hb hq; clear hq
        go_wp2_with fail
        refine (pathOk_c s true H1 _ hsm).mono ?_; rintro e W ⟨rfl, hq⟩; replace hb := chn hb hq; clear hq
        go_wp2_with fail
        refine (sPathOk_c s true H1 _ hsm).mono ?_; rintro e W ⟨rfl, hq⟩; replace hb := chn hb hq; clear hq
        go_wp2_with fail
        refine (pathOk_c d true H2 _ hdm).mono ?_; rintro e W ⟨rfl, hq⟩; replace hb := chn hb hq; clear hq
        go_wp2_with fail
        refine (sPathOk_c d true H2 _ hdm).mono ?_; rintro e W ⟨rfl, hq⟩; replace hb := chn hb hq; clear hq
        go_wp2_with fail
        refine (pathOk_c s true H1 _ hsm).mono ?_; rintro e W ⟨rfl, hq⟩; replace hb := chn hb hq; clear hq
        go_wp2_with fail
        refine (pathOk_c d true H2 _ hdm).mono ?_; rintro e W ⟨rfl, hq⟩; replace hb := chn hb hq; clear hq
        go_wp2_with fail
        refine (pathOk_c t true H3 _ htm).mono ?_; rintro e W ⟨rfl, hq⟩; replace hb := chn hb hq; clear hq
        go_wp2
        go_ret
        exact ⟨rfl, hb⟩
set_option maxHeartbeats 2000000 in
theorem lawPathUp_w (w : World) (a : Option Addr) (n c : Nat) (h : Code w a n c) : Calls Tryd.prog 14 #[.slice a n c] w (TrueB w) := by
  have hn := h.2.2
  by_cases hbig : 1048576 < n
  · clear h
    go_enter Tryd.func14, Tryd.ntmps14
    go_wp2
    go_ret
    exact ⟨rfl, Below.refl _ _⟩
  have HD := Lib.hid (drawPathLevels_c w a n c h)
  clear h
  go_enter Tryd.func14, Tryd.ntmps14
  go_wp2_with fail
  refine HD.out.mono ?_; rintro e W ⟨s, rfl, hs, hb⟩
  have hsm := le20 hs
  have hs2 := le20' hs
  obtain ⟨l, hl⟩ : ∃ l, levelsL s.data.toList = l := ⟨_, rfl⟩
  have HL := Lib.hid hl
  have hl3 : l ≤ 3 := by rw [← hl]; exact levels_le _
  by_cases h0 : l = 0
  · subst h0
    clear hl
    go_wp2_with fail
    refine (pathLevels_c s 0 HL _ hsm).mono ?_; rintro e W ⟨rfl, hq⟩; replace hb := chn hb hq; clear hq
    go_wp2_with fail
    refine (sPathLevels_c s 0 HL _ hsm).mono ?_; rintro e W ⟨rfl, hq⟩; replace hb := chn hb hq; clear hq
    go_wp2_with fail
    refine (sPathLevels_c s 0 HL _ hsm).mono ?_; rintro e W ⟨rfl, hq⟩; replace hb := chn hb hq; clear hq
    go_wp2
    go_ret
    exact ⟨rfl, hb⟩
  have hl0 : ((l : Int) == 0) = false := by rw [beq_eq_false_iff_ne]; omega
  have hp : pathOkL s.data.toList = true := by
    cases hp : pathOkL s.data.toList with
    | true => rfl
    | false => rw [levelsL, hp] at hl; simp at hl; omega
  obtain ⟨ns, hns, hne, hflat⟩ := (pathOk_iff _).1 hp
  obtain rfl : l = ns.length := by rw [← hl, hflat, levels_flat hns hne]
  have HN := Lib.hid hns
  have HF := Lib.hid hflat
  have HNE := Lib.hid hne
  clear hl hp hns hne hflat
  go_wp2_with fail
  refine (pathLevels_c s _ HL _ hsm).mono ?_; rintro e W ⟨rfl, hq⟩; replace hb := chn hb hq; clear hq
  go_wp2_with fail
  refine (sPathLevels_c s _ HL _ hsm).mono ?_; rintro e W ⟨rfl, hq⟩; replace hb := chn hb hq; clear hq
  go_wp2
  go_loopw [5, 6] (fun t i wr => ∃ (k : Nat) (tb : ByteArray), k ≤ ns.length ∧ i = .int .i64 k ∧ t = .string tb ∧ tb.data.toList = encP (ns.take (ns.length - k)) ∧ Below w.heap.size w wr) (fun _ i _ => ns.length - (intOf i).toNat)
  case atStart =>
    exact ⟨0, s, Nat.zero_le _, rfl, rfl, by rw [HF.out, encP, Nat.sub_zero, List.take_length, if_neg HNE.out], hb⟩
  case round =>
    obtain ⟨k, tb, hk, rfl, rfl, ht, hb'⟩ := hrel
    have htn : NS (ns.take (ns.length - k)) := ⟨by have := HN.out.1; simp; omega, fun m hm => HN.out.2 m (List.mem_of_mem_take hm)⟩
    by_cases hlt : k < ns.length
    · have hne2 : ns.take (ns.length - k) ≠ [] := by
        intro e
        have := congrArg List.length e
        simp at this; omega
      have htl : tb.data.toList = flat (ns.take (ns.length - k)) := by rw [ht, encP, if_neg hne2]
      have htb : tb.size ≤ maxLen := by
        have := (flat_len htn.2).1
        have h2 := htn.1
        rw [← htl, size_data] at this; unfold maxLen; omega
      obtain ⟨u, hu, hus⟩ := up_str tb
      have hus2 := le20' hus
      have hue : u.data.toList = encP (ns.take (ns.length - (k + 1))) := by
        rw [← hu.out, htl, up_flat htn hne2, List.dropLast_eq_take, List.length_take, List.take_take, show min (min (ns.length - k) ns.length - 1) (ns.length - k) = ns.length - (k + 1) by omega]
      have hund : Hid (underL s.data.toList u.data.toList = true) := by
        rw [Hid, hue, HF.out]
        have h3 : NS (ns.take (ns.length - (k + 1))) := ⟨by have := HN.out.1; simp; omega, fun m hm => HN.out.2 m (List.mem_of_mem_take hm)⟩
        refine (under_encP HN.out HNE.out h3).2 ⟨ns.drop (ns.length - (k + 1)), ?_, (List.take_append_drop _ _).symm⟩
        intro e
        have := congrArg List.length e
        simp at this; omega
      have HUE := Lib.hid hue
      clear ht htl htn hne2 hue hb
      go_wp2_with fail
      refine (pathUp_c tb u hu _ htb).mono ?_; rintro e W ⟨rfl, hq⟩; replace hb' := chn hb' hq; clear hq
      go_wp2_with fail
      refine (pathUnder_c s u true hund _ hs2 hus2).mono ?_; rintro e W ⟨rfl, hq⟩; replace hb' := chn hb' hq; clear hq
      go_wp2
      go_roundw
      case rel => exact ⟨k + 1, u, by omega, by go_num, rfl, HUE.out, hb'⟩
      case measure => simp [intOf]; omega
    · obtain rfl : k = ns.length := by omega
      obtain rfl : tb = ⟨#[47]⟩ := bytes_eq (by rw [ht]; simp [encP])
      have hu : Hid (upL (ByteArray.mk #[47]).data.toList = (ByteArray.mk #[]).data.toList) := by rw [Hid]; decide
      clear ht htn hb
      go_wp2_with fail
      refine (pathUp_c ⟨#[47]⟩ ⟨#[]⟩ hu _ (by decide)).mono ?_; rintro e W ⟨rfl, hq⟩; replace hb' := chn hb' hq; clear hq
      go_wp2
      go_ret
      exact ⟨ret_bool (by simp; omega), hb'⟩
end Go.Proofs.YtacmebjlbghloaaDoor
