/- The walks of the laws of paths: each returns true at every code. Conditions: none beyond what can be read. -/
import Derived.Test.YtacmebjlbghloaaDoorDrawP
import Derived.Test.YtacmebjlbghloaaDoorPlainC
namespace Go.Proofs.YtacmebjlbghloaaDoor
open Go.RowKit
def TrueB (w : World) (e : Ending) (w' : World) : Prop := e = .returned (.bool true) ∧ Below w.heap.size w w'
theorem str_of' (l : Bs) : ∃ b : ByteArray, l = b.data.toList := ⟨⟨l.toArray⟩, by simp⟩
theorem up_str (s : ByteArray) : ∃ r : ByteArray, Hid (upL s.data.toList = r.data.toList) ∧ r.size ≤ 20 := by
  obtain ⟨r, h1, h2⟩ := up_small s
  exact ⟨r, h1, h2⟩
theorem name_len (l : Bs) : (nameL l).length ≤ 3 := by
  cases hp : pathOkL l with
  | false => simp [nameL, hp]
  | true =>
    obtain ⟨i, n, _, _, h3, _, _, _, h7⟩ := path_split hp
    rw [h7]; exact ((nameOkL_iff n).1 h3).2.1
theorem name_str (s : ByteArray) : ∃ r : ByteArray, Hid (nameL s.data.toList = r.data.toList) ∧ r.size ≤ 20 := by
  obtain ⟨r, hr⟩ := str_of' (nameL s.data.toList)
  refine ⟨r, hr, ?_⟩
  have := name_len s.data.toList
  rw [hr, size_data] at this; omega
theorem le20 {s : ByteArray} (h : s.size ≤ 20) : s.size ≤ maxLen := by unfold maxLen; omega
theorem le20' {s : ByteArray} (h : s.size ≤ 20) : s.size ≤ 2000000 := by omega
theorem levels_le (l : Bs) : levelsL l ≤ 3 := by
  unfold levelsL
  split
  · next h => exact (pathOk_names h).1.1
  · omega
theorem ret_true {b : Bool} (h : b = true) : Ending.returned (.bool b) = .returned (.bool true) := by rw [h]
set_option maxHeartbeats 2000000 in
theorem lawPath_w (w : World) (a : Option Addr) (n c : Nat) (h : Code w a n c) : Calls Tryd.prog 17 #[.slice a n c] w (TrueB w) := by
  have hn := h.2.2
  by_cases hbig : 1048576 < n
  · clear h
    go_enter Tryd.func17, Tryd.ntmps17
    go_wp2
    go_ret
    exact ⟨rfl, Below.refl _ _⟩
  have HD := Lib.hid (drawPathUp_c w a n c h)
  clear h
  go_enter Tryd.func17, Tryd.ntmps17
  go_wp2_with fail
  refine HD.out.mono ?_; rintro e W ⟨s, rfl, hs, hb⟩
  have hsm := le20 hs
  have hs2 := le20' hs
  obtain ⟨u, hu, hus⟩ := up_str s
  obtain ⟨m, hm, hms⟩ := name_str s
  have hum := le20 hus
  have hu2 := le20' hus
  have hm2 := le20' hms
  obtain ⟨l, hl⟩ : ∃ l, levelsL s.data.toList = l := ⟨_, rfl⟩
  have HL := Lib.hid hl
  have hl3 : l ≤ 3 := by rw [← hl]; exact levels_le _
  clear hl
  go_wp2_with fail
  refine (pathUp_c s u hu _ hsm).mono ?_; rintro e W ⟨rfl, hq⟩; replace hb := chn hb hq; clear hq
  go_wp2_with fail
  refine (pathName_c s m hm _ hsm).mono ?_; rintro e W ⟨rfl, hq⟩; replace hb := chn hb hq; clear hq
  go_wp2_with fail
  refine (sPathUp_c s u hu _ hsm).mono ?_; rintro e W ⟨rfl, hq⟩; replace hb := chn hb hq; clear hq
  go_wp2_with fail
  refine (sPathName_c s m hm _ hsm).mono ?_; rintro e W ⟨rfl, hq⟩; replace hb := chn hb hq; clear hq
  cases hp : pathOkL s.data.toList with
  | false =>
    obtain ⟨h1, h2, h3⟩ := no_path hp
    obtain rfl : u = ⟨#[]⟩ := bytes_eq (by rw [← hu.out, h1])
    obtain rfl : m = ⟨#[]⟩ := bytes_eq (by rw [← hm.out, h2])
    obtain rfl : l = 0 := by rw [← HL.out, h3]
    have HP := Lib.hid hp
    clear hp h1 h2 h3
    go_wp2_with fail
    refine (pathOk_c s _ HP _ hsm).mono ?_; rintro e W ⟨rfl, hq⟩; replace hb := chn hb hq; clear hq
    go_wp2_with fail
    refine (sPathOk_c s _ HP _ hsm).mono ?_; rintro e W ⟨rfl, hq⟩; replace hb := chn hb hq; clear hq
    go_wp2_with fail
    refine (pathLevels_c s _ HL _ hsm).mono ?_; rintro e W ⟨rfl, hq⟩; replace hb := chn hb hq; clear hq
    go_wp2_with fail
    refine (sPathLevels_c s _ HL _ hsm).mono ?_; rintro e W ⟨rfl, hq⟩; replace hb := chn hb hq; clear hq
    go_wp2_with fail
    refine (sPathOk_c s _ HP _ hsm).mono ?_; rintro e W ⟨rfl, hq⟩; replace hb := chn hb hq; clear hq
    go_wp2_with fail
    refine (pathLevels_c s _ HL _ hsm).mono ?_; rintro e W ⟨rfl, hq⟩; replace hb := chn hb hq; clear hq
    go_wp2
    go_ret
    exact ⟨rfl, hb⟩
  | true =>
    obtain ⟨h1, h2, h3, h4⟩ := law_path hp
    have HP := Lib.hid hp
    rw [hu.out] at h1 h2 h3 h4
    rw [hm.out] at h1 h2
    have HJ := Lib.hid h1
    have HX := Lib.hid h2
    have HU := Lib.hid h3
    obtain ⟨l', hl'⟩ : ∃ l', levelsL u.data.toList = l' := ⟨_, rfl⟩
    have HL' := Lib.hid hl'
    rw [hl', HL.out] at h4
    subst h4
    have HS := Lib.hid (not_under_self s.data.toList)
    clear hp h1 h2 h3 hl'
    go_wp2_with fail
    refine (pathOk_c s _ HP _ hsm).mono ?_; rintro e W ⟨rfl, hq⟩; replace hb := chn hb hq; clear hq
    go_wp2_with fail
    refine (sPathOk_c s _ HP _ hsm).mono ?_; rintro e W ⟨rfl, hq⟩; replace hb := chn hb hq; clear hq
    go_wp2_with fail
    refine (pathLevels_c s _ HL _ hsm).mono ?_; rintro e W ⟨rfl, hq⟩; replace hb := chn hb hq; clear hq
    go_wp2_with fail
    refine (sPathLevels_c s _ HL _ hsm).mono ?_; rintro e W ⟨rfl, hq⟩; replace hb := chn hb hq; clear hq
    go_wp2_with fail
    refine (sPathOk_c s _ HP _ hsm).mono ?_; rintro e W ⟨rfl, hq⟩; replace hb := chn hb hq; clear hq
    go_wp2_with fail
    refine (pathJoin_c u m s true HX HJ _ hu2 hm2).mono ?_; rintro e W ⟨rfl, hq⟩; replace hb := chn hb hq; clear hq
    go_wp2_with fail
    refine (pathUnder_c s u true HU _ hs2 hu2).mono ?_; rintro e W ⟨rfl, hq⟩; replace hb := chn hb hq; clear hq
    go_wp2_with fail
    refine (pathLevels_c s _ HL _ hsm).mono ?_; rintro e W ⟨rfl, hq⟩; replace hb := chn hb hq; clear hq
    go_wp2_with fail
    refine (pathLevels_c u _ HL' _ hum).mono ?_; rintro e W ⟨rfl, hq⟩; replace hb := chn hb hq; clear hq
    go_wp2_with fail
    refine (pathUnder_c s s false HS _ hs2 hs2).mono ?_; rintro e W ⟨rfl, hq⟩; replace hb := chn hb hq; clear hq
    go_wp2
    go_ret
    exact ⟨rfl, hb⟩
set_option maxHeartbeats 2000000 in
theorem lawPathJoin_w (w : World) (a : Option Addr) (n c : Nat) (a' : Option Addr) (n' c' : Nat) (h : Code w a n c) (h' : Code w a' n' c') : Calls Tryd.prog 15 #[.slice a n c, .slice a' n' c'] w (TrueB w) := by
  have hn := h.2.2
  have hn' := h'.2.2
  by_cases hbig : 1048576 < n
  · clear h h'
    go_enter Tryd.func15, Tryd.ntmps15
    go_wp2
    go_ret
    exact ⟨rfl, Below.refl _ _⟩
  by_cases hbig' : 1048576 < n'
  · clear h h'
    go_enter Tryd.func15, Tryd.ntmps15
    go_wp2
    go_ret
    exact ⟨rfl, Below.refl _ _⟩
  have HD := Lib.hid (drawPathJoin_c w a n c h)
  have HC := Lib.hid h'
  clear h h'
  go_enter Tryd.func15, Tryd.ntmps15
  go_wp2_with fail
  refine HD.out.mono ?_; rintro e W ⟨d, m, rfl, hd, hm, hb⟩
  have HD2 := Lib.hid (drawPathJoin_c W a' n' c' (HC.out.below hb))
  go_wp2_with fail
  refine HD2.out.mono ?_; rintro e W ⟨d', m', rfl, hd', hm', hq⟩; replace hb := chn hb hq; clear hq
  have hd2 := le20' hd
  have hm2 := le20' hm
  have hd2' := le20' hd'
  have hm2' := le20' hm'
  obtain ⟨x, hx⟩ := str_of' (joinL d.data.toList m.data.toList)
  have HX := Lib.hid hx
  cases ho : joinOkL d.data.toList m.data.toList with
  | false =>
    obtain rfl : x = ⟨#[]⟩ := bytes_eq (by rw [← hx, joinL, ho]; rfl)
    have HO := Lib.hid ho
    clear ho hx
    go_wp2_with fail
    refine (pathJoin_c d m ⟨#[]⟩ false HX HO _ hd2 hm2).mono ?_; rintro e W ⟨rfl, hq⟩; replace hb := chn hb hq; clear hq
    go_wp2_with fail
    refine (sPathJoin_c d m ⟨#[]⟩ false HX HO _ hd2 hm2).mono ?_; rintro e W ⟨rfl, hq⟩; replace hb := chn hb hq; clear hq
    go_wp2
    go_ret
    exact ⟨rfl, hb⟩
  | true =>
    have HO := Lib.hid ho
    obtain ⟨h1, h2, h3⟩ := join_path ho
    rw [hx] at h1 h2 h3
    have hxm : x.size ≤ maxLen := by have := path_len h1; rw [size_data] at this; unfold maxLen; omega
    have HU := Lib.hid h2
    have HN := Lib.hid h3
    obtain ⟨z, hz⟩ := str_of' (joinL d'.data.toList m'.data.toList)
    have HZ := Lib.hid hz
    obtain ⟨ok', ho'⟩ : ∃ ok', joinOkL d'.data.toList m'.data.toList = ok' := ⟨_, rfl⟩
    have HO' := Lib.hid ho'
    cases ok' with
    | false =>
      clear ho ho' hx hz h1 h2 h3
      go_wp2_with fail
      refine (pathJoin_c d m _ true HX HO _ hd2 hm2).mono ?_; rintro e W ⟨rfl, hq⟩; replace hb := chn hb hq; clear hq
      go_wp2_with fail
      refine (sPathJoin_c d m _ true HX HO _ hd2 hm2).mono ?_; rintro e W ⟨rfl, hq⟩; replace hb := chn hb hq; clear hq
      go_wp2_with fail
      refine (pathJoin_c d' m' _ false HZ HO' _ hd2' hm2').mono ?_; rintro e W ⟨rfl, hq⟩; replace hb := chn hb hq; clear hq
      go_wp2_with fail
      refine (pathUp_c x d HU _ hxm).mono ?_; rintro e W ⟨rfl, hq⟩; replace hb := chn hb hq; clear hq
      go_wp2_with fail
      refine (pathName_c x m HN _ hxm).mono ?_; rintro e W ⟨rfl, hq⟩; replace hb := chn hb hq; clear hq
      go_wp2
      go_ret
      exact ⟨rfl, hb⟩
    | true =>
      have hinj := join_inj ho ho'
      rw [hz, hx] at hinj
      by_cases hzx : z.data.toList = x.data.toList
      · obtain ⟨e1, e2⟩ := hinj.1 hzx
        obtain rfl : z = x := bytes_eq hzx
        obtain rfl := bytes_eq e1
        obtain rfl := bytes_eq e2
        clear ho ho' hx hz h1 h2 h3 hinj hzx e1 e2
        go_wp2_with fail
        refine (pathJoin_c d' m' _ true HX HO _ hd2 hm2).mono ?_; rintro e W ⟨rfl, hq⟩; replace hb := chn hb hq; clear hq
        go_wp2_with fail
        refine (sPathJoin_c d' m' _ true HX HO _ hd2 hm2).mono ?_; rintro e W ⟨rfl, hq⟩; replace hb := chn hb hq; clear hq
        go_wp2_with fail
        refine (pathJoin_c d' m' _ true HZ HO' _ hd2' hm2').mono ?_; rintro e W ⟨rfl, hq⟩; replace hb := chn hb hq; clear hq
        go_wp2_with fail
        refine (pathUp_c z d' HU _ hxm).mono ?_; rintro e W ⟨rfl, hq⟩; replace hb := chn hb hq; clear hq
        go_wp2_with fail
        refine (pathName_c z m' HN _ hxm).mono ?_; rintro e W ⟨rfl, hq⟩; replace hb := chn hb hq; clear hq
        go_wp2
        go_ret
        exact ⟨rfl, hb⟩
      · have q1 := beqs_no hzx
        by_cases hdd : d'.data.toList = d.data.toList
        · have q2 := beqs_yes hdd
          have q3 := beqs_no (s := m') (t := m) (fun h => hzx (hinj.2 ⟨hdd, h⟩))
          clear ho ho' hx hz h1 h2 h3 hinj hzx hdd
          go_wp2_with fail
          refine (pathJoin_c d m _ true HX HO _ hd2 hm2).mono ?_; rintro e W ⟨rfl, hq⟩; replace hb := chn hb hq; clear hq
          go_wp2_with fail
          refine (sPathJoin_c d m _ true HX HO _ hd2 hm2).mono ?_; rintro e W ⟨rfl, hq⟩; replace hb := chn hb hq; clear hq
          go_wp2_with fail
          refine (pathJoin_c d' m' _ true HZ HO' _ hd2' hm2').mono ?_; rintro e W ⟨rfl, hq⟩; replace hb := chn hb hq; clear hq
          go_wp2_with fail
          refine (pathUp_c x d HU _ hxm).mono ?_; rintro e W ⟨rfl, hq⟩; replace hb := chn hb hq; clear hq
          go_wp2_with fail
          refine (pathName_c x m HN _ hxm).mono ?_; rintro e W ⟨rfl, hq⟩; replace hb := chn hb hq; clear hq
          go_wp2
          go_ret
          exact ⟨rfl, hb⟩
        · have q2 := beqs_no hdd
          clear ho ho' hx hz h1 h2 h3 hinj hzx hdd
          go_wp2_with fail
          refine (pathJoin_c d m _ true HX HO _ hd2 hm2).mono ?_; rintro e W ⟨rfl, hq⟩; replace hb := chn hb hq; clear hq
          go_wp2_with fail
          refine (sPathJoin_c d m _ true HX HO _ hd2 hm2).mono ?_; rintro e W ⟨rfl, hq⟩; replace hb := chn hb hq; clear hq
          go_wp2_with fail
          refine (pathJoin_c d' m' _ true HZ HO' _ hd2' hm2').mono ?_; rintro e W ⟨rfl, hq⟩; replace hb := chn hb hq; clear hq
          go_wp2_with fail
          refine (pathUp_c x d HU _ hxm).mono ?_; rintro e W ⟨rfl, hq⟩; replace hb := chn hb hq; clear hq
          go_wp2_with fail
          refine (pathName_c x m HN _ hxm).mono ?_; rintro e W ⟨rfl, hq⟩; replace hb := chn hb hq; clear hq
          go_wp2
          go_ret
          exact ⟨rfl, hb⟩
end Go.Proofs.YtacmebjlbghloaaDoor
