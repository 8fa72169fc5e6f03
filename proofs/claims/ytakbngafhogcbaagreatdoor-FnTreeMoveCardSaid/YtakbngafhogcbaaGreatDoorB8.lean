/- The walk of the law that moves carry whole subtrees and can be undone: FnTreeMove. Conditions: each theorem's own. -/
import Derived.Test.YtakbngafhogcbaaGreatDoorB6
import Derived.Deep.QuietTactic
import Derived.BigQuiet
namespace Go.Proofs.YtakbngafhogcbaaGreatDoor
open Go.RowKit
theorem move_at {t : List PE} {p r : Bs} (m : MV t p r) {e : PE} (he : e ∈ t) : getL (mvL t p r) (moveL e.p p r) = some ⟨moveL e.p p r, e.d, e.x⟩ :=
  getL_mem (e := movedE p r e) m.tok'.ord (m.mem.2 ⟨e, he, rfl⟩)
theorem tget_of {ms : List En} {q : ByteArray} {e : En} (h : TOk (ms.map En.pl)) (hq : pathOkL q.data.toList = true) (hg : getL (ms.map En.pl) q.data.toList = some e.pl) : tgetE ms q = some e := by
  rw [tget_right h hq]
  rw [getE_pl] at hg
  cases hx : getE ms q with
  | none => rw [hx] at hg; cases hg
  | some f =>
    rw [hx] at hg
    injection hg with hg
    rw [En.pl_inj hg]
theorem undo_5 {t : List PE} {p r x : Bs} (hc : tcode t 5 p r x = 0) : tcode (tdo t 5 p r x) 5 r p [] = 0 ∧ tdo (tdo t 5 p r x) 5 r p [] = t ∧ MV t p r ∧ tdo t 5 p r x = mvL t p r := by
  obtain ⟨h, ho, hcd⟩ := tcode_0 hc
  have hp := opOk_p ho
  have hr : pathOkL r = true := by rw [opOk_5] at ho; simp only [Bool.and_eq_true] at ho; exact ho.2.1
  rw [code_5] at hcd
  have m := mv_of h hp hr hcd
  have e0 : tdo t 5 p r x = mvL t p r := by rw [tdo_do hc, doL_5]
  rw [e0]
  obtain ⟨h5, h6⟩ := via_op (k := 5) (x := []) m.tok' (show opOkL 5 r p [] = true by rw [opOk_5, hp, hr]; rfl) (by rw [code_5]; exact mv_code m.back)
  exact ⟨h5, by rw [h6, doL_5]; exact m.back_eq, m, rfl⟩
set_option maxRecDepth 100000 in
set_option maxHeartbeats 8000000 in
theorem lawTreeMove_w (w : World) (a : Option Addr) (n c : Nat) (h : Code w a n c) : Calls Tryz.prog 8 #[.slice a n c] w (TrueB w) := by
  have hn := h.2.2
  by_cases hbig : 1048576 < n
  · clear h
    go_enter Tryz.func8, Tryz.ntmps8
    go_wp2
    go_ret
    exact ⟨rfl, Below.refl _ _⟩
  have HD := Lib.hid (drawTreeDo_c w a n c h)
  clear h
  go_enter Tryz.func8, Tryz.ntmps8
  go_wp2_with fail
  refine HD.out.mono ?_; rintro e W1 ⟨a1, c1, xs, k, P, T, D, rfl, hR, hz, hx, hP, hT, hD, hb⟩
  obtain ⟨n1, hn1⟩ : ∃ m, xs.length = m := ⟨_, rfl⟩
  rw [hn1] at hx ⊢
  have HN1 := Lib.hid hn1
  have HZ := Lib.hid hz
  have c0 := new_cell W1 (opBox k P T D) 25 0 _ rfl
  have c1' := new_cell W1 (opBox k P T D) 25 1 _ rfl
  have c2' := new_cell W1 (opBox k P T D) 25 2 _ rfl
  have c3' := new_cell W1 (opBox k P T D) 25 3 _ rfl
  replace hb := hb.alloc hb.size (.cells (opBox k P T D) 25)
  replace hR := hR.below (bellow_alloc W1 (.cells (opBox k P T D) 25))
  clear hn1 hz HD
  go_wp2_with fail
  refine (doL_c a1 c1 n1 xs k P T D _ HN1.out hR.inT (by omega) hP hT hD HZ.out).mono ?_
  rintro e W2 ⟨a2, c2, n2, ms, rfl, hn2, hms, hX, hq⟩
  replace hb := chn hb hq; replace hR := hR.below hq; replace c0 := keepc hq c0; replace c1' := keepc hq c1'; replace c2' := keepc hq c2'; replace c3' := keepc hq c3'
  have HN2 := Lib.hid hn2
  have HMS := Lib.hid hms
  clear hq hn2 hms
  go_wp2_with fail
  refine (sDoL_c a1 c1 n1 xs k P T D _ HN1.out hR (by omega) hP hT hD HZ.out).mono ?_
  rintro e W3 ⟨a3, c3, n3, ms3, rfl, hn3, hms3, hY, hq⟩
  obtain rfl : ms3 = ms := map_inj_ En.pl_inj (hms3.trans HMS.out.symm)
  obtain rfl : n3 = n2 := hn3.symm.trans HN2.out
  replace hb := chn hb hq; replace hR := hR.below hq; replace hX := hX.below hq; replace c0 := keepc hq c0; replace c1' := keepc hq c1'; replace c2' := keepc hq c2'; replace c3' := keepc hq c3'
  clear hq hn3 hms3
  obtain ⟨C, hC⟩ : ∃ C, tcode (xs.map En.pl) k P.data.toList T.data.toList D.data.toList = C := ⟨_, rfl⟩
  have HC := Lib.hid hC
  rw [hC]
  have hn2b : n3 ≤ 100 := by
    have h1 := congrArg List.length HMS.out
    have h2 := do_len (xs.map En.pl) k P.data.toList T.data.toList D.data.toList
    rw [List.length_map] at h1 h2
    have h3 := HN2.out
    have h4 := HN1.out
    omega
  clear hC
  by_cases k5 : k = 5
  · subst k5
    by_cases hC0 : C = 0
    · subst hC0
      obtain ⟨hc4, hd4, hmv, he0⟩ := undo_5 HC.out
      rw [← HMS.out] at hc4 hd4
      have HC4 : Hid (tcode (ms3.map En.pl) 5 T.data.toList P.data.toList [] = 0) := hc4
      have HD4 : Hid (tdo (ms3.map En.pl) 5 T.data.toList P.data.toList [] = xs.map En.pl) := hd4
      have HMV := Lib.hid hmv
      have HML : Hid (ms3.map En.pl = mvL (xs.map En.pl) P.data.toList T.data.toList) := HMS.out.trans he0
      have HSM := Lib.hid (tdo_small HMS.out HC.out)
      have HTM : Hid (TOk (ms3.map En.pl)) := by rw [Hid, HML.out]; exact hmv.tok'
      have HX := Lib.hid hX
      have HRD := Lib.hid hR
      have HB3 := Lib.hid hb
      have C0 := Lib.hid c0
      have C1 := Lib.hid c1'
      have C2 := Lib.hid c2'
      clear hc4 hd4 hmv he0 hX hY hR hb c1' c2' c3'
      go_wp2
      clear c0
      go_loopw [9] (fun i wr => ∃ j : Nat, j ≤ n1 ∧ i = .int .i64 j ∧ Below W3.heap.size W3 wr) (fun i _ => n1 - (intOf i).toNat)
      case atStart => exact ⟨0, Nat.zero_le _, rfl, Below.refl _ _⟩
      case round =>
        obtain ⟨j, hj, rfl, hb⟩ := hrel
        have k1c := keepc hb C1.out
        have k2c := keepc hb C2.out
        by_cases hlt : j < n1
        · obtain ⟨e, hee⟩ : ∃ e, xs[j]? = some e := ⟨_, List.getElem?_eq_getElem (by rw [HN1.out]; exact hlt)⟩
          have hem : e.pl ∈ xs.map En.pl := List.mem_map_of_mem (List.mem_of_getElem? hee)
          have hes := (HZ.out e (List.mem_of_getElem? hee)).1
          have hsl := (HRD.out.below hb).sl
          obtain ⟨b, off, rfl, _⟩ := hsl.addr (by rw [HN1.out]; omega)
          obtain ⟨d0, d1, d2⟩ := en_at hsl j e hee
          obtain ⟨mv, hmv⟩ : ∃ mv : ByteArray, moveL e.p.data.toList P.data.toList T.data.toList = mv.data.toList := ⟨⟨(moveL e.p.data.toList P.data.toList T.data.toList).toArray⟩, by simp⟩
          have HMV2 := Lib.hid hmv
          have hok := HMV.out.all e.pl hem
          have HOK2 : Hid (moveOkL e.p.data.toList P.data.toList T.data.toList = true) := hok
          have hpm : pathOkL mv.data.toList = true := by rw [← hmv]; exact (moveOk_paths hok).2.2.2
          have HTG : Hid (tgetE ms3 mv = some ⟨mv, e.d, e.x⟩) := by
            refine tget_of HTM.out hpm ?_
            rw [HML.out, ← hmv]
            have h9 := move_at HMV.out hem
            rw [show (⟨mv, e.d, e.x⟩ : En).pl = ⟨moveL e.p.data.toList P.data.toList T.data.toList, e.d, e.x.data.toList⟩ by rw [hmv]; rfl]
            exact h9
          have i0 : (0 : Int) ≤ (j : Int) := by omega
          have i1 : (j : Int) < (n1 : Int) := by omega
          obtain ⟨ep, ed, ex⟩ := e
          clear hee hem hsl hmv hok hpm
          go_wp2_with fail
          refine wp_region_held_drew (S := fun w' => Below _ _ w') (by kernel_rfl) (below_drew _) (fun hHeld => ?_)
          refine tk (i := 0) (d := (some 58)) (v := ?_) rfl rfl (by kernel_rfl) (by kernel_rfl) (by kernel_rfl) (fun _ _ _ h => h) (Or.inl ⟨by rfl, ?_⟩) hHeld ?_
          rotate_left
          · intro w hSw; have zd0 := keepc hSw d0; have zk1c := keepc hSw k1c; have zk2c := keepc hSw k2c; clear hSw; go_simp <;> with_reducible rfl
          (try simp only [Act.put, List.setIfInBounds_toArray, List.set_cons_zero, List.set_cons_succ])
          refine tk (i := 1) (d := (some 59)) (v := ?_) rfl rfl (by kernel_rfl) (by kernel_rfl) (by kernel_rfl) (fun _ _ _ h => h) (Or.inl ⟨by rfl, ?_⟩) hHeld ?_
          rotate_left
          · intro w hSw; have zd0 := keepc hSw d0; have zk1c := keepc hSw k1c; have zk2c := keepc hSw k2c; clear hSw; go_simp <;> with_reducible rfl
          (try simp only [Act.put, List.setIfInBounds_toArray, List.set_cons_zero, List.set_cons_succ])
          refine tk (i := 2) (d := (some 60)) (v := ?_) rfl rfl (by kernel_rfl) (by kernel_rfl) (by kernel_rfl) (fun _ _ _ h => h) (Or.inl ⟨by rfl, ?_⟩) hHeld ?_
          rotate_left
          · intro w hSw; have zd0 := keepc hSw d0; have zk1c := keepc hSw k1c; have zk2c := keepc hSw k2c; clear hSw; go_simp <;> with_reducible rfl
          (try simp only [Act.put, List.setIfInBounds_toArray, List.set_cons_zero, List.set_cons_succ])
          refine tk (i := 3) (d := (some 61)) (v := ?_) rfl rfl (by kernel_rfl) (by kernel_rfl) (by kernel_rfl) (fun _ _ _ h => h) (Or.inl ⟨by rfl, ?_⟩) hHeld ?_
          rotate_left
          · intro w hSw; have zd0 := keepc hSw d0; have zk1c := keepc hSw k1c; have zk2c := keepc hSw k2c; clear hSw; go_simp <;> with_reducible rfl
          (try simp only [Act.put, List.setIfInBounds_toArray, List.set_cons_zero, List.set_cons_succ])
          refine tk (i := 4) (d := (some 62)) (v := ?_) rfl rfl (by kernel_rfl) (by kernel_rfl) (by kernel_rfl) (fun _ _ _ h => h) (Or.inl ⟨by rfl, ?_⟩) hHeld ?_
          rotate_left
          · intro w hSw; have zd0 := keepc hSw d0; have zk1c := keepc hSw k1c; have zk2c := keepc hSw k2c; clear hSw; go_simp <;> with_reducible rfl
          (try simp only [Act.put, List.setIfInBounds_toArray, List.set_cons_zero, List.set_cons_succ])
          refine tk (i := 5) (d := (some 63)) (v := ?_) rfl rfl (by kernel_rfl) (by kernel_rfl) (by kernel_rfl) (fun _ _ _ h => h) (Or.inl ⟨by rfl, ?_⟩) hHeld ?_
          rotate_left
          · intro w hSw; have zd0 := keepc hSw d0; have zk1c := keepc hSw k1c; have zk2c := keepc hSw k2c; clear hSw; go_simp <;> with_reducible rfl
          (try simp only [Act.put, List.setIfInBounds_toArray, List.set_cons_zero, List.set_cons_succ])
          refine tk (i := 6) (d := (some 64)) (v := ?_) rfl rfl (by kernel_rfl) (by kernel_rfl) (by kernel_rfl) (fun _ _ _ h => h) (Or.inl ⟨by rfl, ?_⟩) hHeld ?_
          rotate_left
          · intro w hSw; have zd0 := keepc hSw d0; have zk1c := keepc hSw k1c; have zk2c := keepc hSw k2c; clear hSw; go_simp <;> with_reducible rfl
          (try simp only [Act.put, List.setIfInBounds_toArray, List.set_cons_zero, List.set_cons_succ])
          refine tk (i := 7) (d := (some 65)) (v := ?_) rfl rfl (by kernel_rfl) (by kernel_rfl) (by kernel_rfl) (fun _ _ _ h => h) (Or.inl ⟨by rfl, ?_⟩) hHeld ?_
          rotate_left
          · intro w hSw; have zd0 := keepc hSw d0; have zk1c := keepc hSw k1c; have zk2c := keepc hSw k2c; clear hSw; go_simp <;> with_reducible rfl
          (try simp only [Act.put, List.setIfInBounds_toArray, List.set_cons_zero, List.set_cons_succ])
          refine tk (i := 8) (d := (some 66)) (v := ?_) rfl rfl (by kernel_rfl) (by kernel_rfl) (by kernel_rfl) (fun _ _ _ h => h) (Or.inl ⟨by rfl, ?_⟩) hHeld ?_
          rotate_left
          · intro w hSw; have zd0 := keepc hSw d0; have zk1c := keepc hSw k1c; have zk2c := keepc hSw k2c; clear hSw; go_simp <;> with_reducible rfl
          (try simp only [Act.put, List.setIfInBounds_toArray, List.set_cons_zero, List.set_cons_succ])
          refine wpAnyH_ready (rs := [9]) (by kernel_rfl) (by simp) ?_
          refine AllReadyH.cons rfl (fun K hK => ?_) AllReadyH.nil
          go_simp
          refine (pathMove_c ep P T mv true HMV2 HOK2 _ (by omega) (by omega) (by omega)).mono ?_; rintro e W ⟨rfl, hq⟩
          go_simp
          refine hK.out _ _ (chn hHeld hq) (fun h => ?_)
          clear hK K; replace hHeld := h; clear h hq
          (try simp only [Act.put, List.setIfInBounds_toArray, List.set_cons_zero, List.set_cons_succ])
          refine tk (i := 10) (d := (some 57)) (v := ?_) rfl rfl (by kernel_rfl) (by kernel_rfl) (by kernel_rfl) (fun _ _ _ h => h) (Or.inl ⟨by rfl, ?_⟩) hHeld ?_
          rotate_left
          · intro w hSw; have zd0 := keepc hSw d0; have zk1c := keepc hSw k1c; have zk2c := keepc hSw k2c; clear hSw; go_simp <;> with_reducible rfl
          (try simp only [Act.put, List.setIfInBounds_toArray, List.set_cons_zero, List.set_cons_succ])
          refine tk (i := 11) (d := (some 68)) (v := ?_) rfl rfl (by kernel_rfl) (by kernel_rfl) (by kernel_rfl) (fun _ _ _ h => h) (Or.inl ⟨by rfl, ?_⟩) hHeld ?_
          rotate_left
          · intro w hSw; have zd0 := keepc hSw d0; have zk1c := keepc hSw k1c; have zk2c := keepc hSw k2c; clear hSw; go_simp <;> with_reducible rfl
          (try simp only [Act.put, List.setIfInBounds_toArray, List.set_cons_zero, List.set_cons_succ])
          refine tk (i := 12) (d := (some 69)) (v := ?_) rfl rfl (by kernel_rfl) (by kernel_rfl) (by kernel_rfl) (fun _ _ _ h => h) (Or.inl ⟨by rfl, ?_⟩) hHeld ?_
          rotate_left
          · intro w hSw; have zd0 := keepc hSw d0; have zk1c := keepc hSw k1c; have zk2c := keepc hSw k2c; clear hSw; go_simp <;> with_reducible rfl
          (try simp only [Act.put, List.setIfInBounds_toArray, List.set_cons_zero, List.set_cons_succ])
          refine tk (i := 13) (d := (some 10)) (v := ?_) rfl rfl (by kernel_rfl) (by kernel_rfl) (by kernel_rfl) (fun _ _ _ h => h) (Or.inl ⟨by rfl, ?_⟩) hHeld ?_
          rotate_left
          · intro w hSw; have zd0 := keepc hSw d0; have zk1c := keepc hSw k1c; have zk2c := keepc hSw k2c; clear hSw; go_simp <;> with_reducible rfl
          (try simp only [Act.put, List.setIfInBounds_toArray, List.set_cons_zero, List.set_cons_succ])
          refine tk (i := 14) (d := (some 11)) (v := ?_) rfl rfl (by kernel_rfl) (by kernel_rfl) (by kernel_rfl) (fun _ _ _ h => h) (Or.inl ⟨by rfl, ?_⟩) hHeld ?_
          rotate_left
          · intro w hSw; have zd0 := keepc hSw d0; have zk1c := keepc hSw k1c; have zk2c := keepc hSw k2c; clear hSw; go_simp <;> with_reducible rfl
          (try simp only [Act.put, List.setIfInBounds_toArray, List.set_cons_zero, List.set_cons_succ])
          refine wpAnyH_done (by kernel_rfl) ?_ _
          replace hb := chn hb hHeld; replace d1 := keepc hHeld d1; replace d2 := keepc hHeld d2; clear hHeld
          go_wp2_with fail
          refine (getT_c a2 c2 n3 ms3 mv _ HTG _ HN2.out (HX.out.below hb).1 (by omega) HSM.out).mono ?_; rintro e W ⟨rfl, hq⟩; replace hb := chn hb hq; replace d1 := keepc hq d1; replace d2 := keepc hq d2; clear hq
          have q1 := new_cell W #[.string mv, .bool ed, .string ex] 31 1 (.bool ed) rfl
          have q2 := new_cell W #[.string mv, .bool ed, .string ex] 31 2 (.string ex) rfl
          replace d1 := keepc (bellow_alloc W (.cells #[.string mv, .bool ed, .string ex] 31)) d1
          replace d2 := keepc (bellow_alloc W (.cells #[.string mv, .bool ed, .string ex] 31)) d2
          replace hb := hb.alloc hb.size (.cells #[.string mv, .bool ed, .string ex] 31)
          clear k1c k2c
          go_wp2_with fail
          go_quiet (fail)
          go_wp2
          go_roundw
          case rel => exact ⟨j + 1, by omega, by go_num, drw hb _⟩
          case measure => simp [intOf]; omega
        · obtain rfl : j = n1 := by omega
          have hbX := Lib.hid (HB3.out.trans (hb.mono HB3.out.size))
          have HXX := Lib.hid (HX.out.below hb)
          have HRX := Lib.hid (HRD.out.below hb)
          clear hb
          go_wp2_with fail
          refine (doL_c a2 c2 n3 ms3 5 T P ⟨#[]⟩ _ HN2.out HXX.out (by omega) hT hP (by decide) HSM.out).mono ?_
          rintro e W5 ⟨a5, c5, n5, ms5, rfl, hn5, hms5, hV, hq⟩
          obtain rfl : ms5 = xs := map_inj_ En.pl_inj (hms5.trans HD4.out)
          obtain rfl : n5 = j := hn5.symm.trans HN1.out
          rw [show (tcode (ms3.map En.pl) 5 T.data.toList P.data.toList (⟨#[]⟩ : ByteArray).data.toList) = 0 from HC4.out]
          have hb := chn hbX.out hq
          have HSC := Lib.hid (sameL_c a5 a1 c5 c1 n5 n5 ms5 ms5 true (Lib.hid ⟨fun _ => rfl, fun _ => rfl⟩) W5 HN1.out HN1.out hV (HRX.out.inT.below hq) (by omega) (by omega))
          clear hq hn5 hms5 hV
          go_wp2_with fail
          refine HSC.out.mono ?_; rintro e W ⟨rfl, hq⟩; replace hb := chn hb hq; clear hq
          go_wp2
          go_ret
          exact ⟨rfl, hb⟩
    · skip
      have hne : ((C : Int) != 0) = true := by rw [bne_iff_ne]; omega
      go_wp2
      go_ret
      exact ⟨rfl, hb⟩
  · have n5 : (k != 5) = true := by rw [bne_iff_ne]; exact k5
    clear k5
    go_wp2
    go_ret
    exact ⟨rfl, hb⟩
end Go.Proofs.YtakbngafhogcbaaGreatDoor
