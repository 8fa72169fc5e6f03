/- The walk of the law that what is done keeps trees right: FnTree. Conditions: each theorem's own. -/
import Derived.Test.YtakbngafhogcbaaGreatDoorB6
namespace Go.Proofs.YtakbngafhogcbaaGreatDoor
open Go.RowKit
theorem okT_c (a : Option Addr) (c n : Nat) (xs : List En) (r : Bool) (hr : Hid (r = true ↔ TOk (xs.map En.pl))) (w : World) (hn : xs.length = n) (hs : SlF En.cells w a xs) (hx : n ≤ 1000) (hz : Small xs) :
    Calls Tryz.prog 16 #[.slice a n c] w fun e w' => e = .returned (.bool r) ∧ Below w.heap.size w w' := by
  subst hn
  exact treeOk_c a c xs r hr w hs (by unfold maxLen; omega) hz.max
theorem sOkT_c (a : Option Addr) (c n : Nat) (xs : List En) (r : Bool) (hr : Hid (r = true ↔ TOk (xs.map En.pl))) (w : World) (hn : xs.length = n) (hs : ReadEn w a c xs) (hx : n ≤ 1000) (hz : Small xs) :
    Calls Tryz.prog 17 #[.slice a n c] w fun e w' => e = .returned (.bool r) ∧ Below w.heap.size w w' := by
  subst hn
  have hc : xs.length ≤ c := by obtain ⟨_, _, _, _, _, h, _⟩ := hs; exact h
  exact sTreeOk_c a c xs r hr w hs.sl (by unfold maxLen; omega) hc hz.max
theorem small_nil : Small [] := fun e he => by simp at he
set_option maxRecDepth 100000 in
set_option maxHeartbeats 8000000 in
theorem lawTree_w (w : World) (a : Option Addr) (n c : Nat) (h : Code w a n c) : Calls Tryz.prog 4 #[.slice a n c] w (TrueB w) := by
  have hn := h.2.2
  by_cases hbig : 1048576 < n
  · clear h
    go_enter Tryz.func4, Tryz.ntmps4
    go_wp2
    go_ret
    exact ⟨rfl, Below.refl _ _⟩
  have HD := Lib.hid (drawTreeDo_c w a n c h)
  clear h
  go_enter Tryz.func4, Tryz.ntmps4
  go_wp2_with fail
  refine HD.out.mono ?_; rintro e W1 ⟨a1, c1, xs, k, P, T, D, rfl, hR, hz, hx, hP, hT, hD, hb⟩
  obtain ⟨n1, hn1⟩ : ∃ m, xs.length = m := ⟨_, rfl⟩
  rw [hn1] at hx ⊢
  have HN1 := Lib.hid hn1
  have HZ := Lib.hid hz
  have c0 := new_cell W1 (opBox k P T D) 25 0 _ rfl
  have c1' := new_cell W1 (opBox k P T D) 25 1 _ rfl
  have c2' := new_cell W1 (opBox k P T D) 25 2 _ rfl
  have c3' := new_cell W1 (opBox k P T D) 25 3 _ rfl
  replace hb := hb.alloc hb.size (.cells (opBox k P T D) 25)
  replace hR := hR.below (bellow_alloc W1 (.cells (opBox k P T D) 25))
  clear hn1 hz HD
  go_wp2_with fail
  refine (doL_c a1 c1 n1 xs k P T D _ HN1.out hR.inT (by omega) hP hT hD HZ.out).mono ?_
  rintro e W2 ⟨a2, c2, n2, ms, rfl, hn2, hms, hX, hq⟩
  replace hb := chn hb hq; replace hR := hR.below hq; replace c0 := keepc hq c0; replace c1' := keepc hq c1'; replace c2' := keepc hq c2'; replace c3' := keepc hq c3'
  have HN2 := Lib.hid hn2
  have HMS := Lib.hid hms
  clear hq hn2 hms
  go_wp2_with fail
  refine (sDoL_c a1 c1 n1 xs k P T D _ HN1.out hR (by omega) hP hT hD HZ.out).mono ?_
  rintro e W3 ⟨a3, c3, n3, ms3, rfl, hn3, hms3, hY, hq⟩
  obtain rfl : ms3 = ms := map_inj_ En.pl_inj (hms3.trans HMS.out.symm)
  obtain rfl : n3 = n2 := hn3.symm.trans HN2.out
  replace hb := chn hb hq; replace hR := hR.below hq; replace hX := hX.below hq; replace c0 := keepc hq c0; replace c1' := keepc hq c1'; replace c2' := keepc hq c2'; replace c3' := keepc hq c3'
  clear hq hn3 hms3
  obtain ⟨C, hC⟩ : ∃ C, tcode (xs.map En.pl) k P.data.toList T.data.toList D.data.toList = C := ⟨_, rfl⟩
  have HC := Lib.hid hC
  rw [hC]
  have hn2b : n3 ≤ 100 := by
    have h1 := congrArg List.length HMS.out
    have h2 := do_len (xs.map En.pl) k P.data.toList T.data.toList D.data.toList
    rw [List.length_map] at h1 h2
    have h3 := HN2.out
    have h4 := HN1.out
    omega
  clear hC
  obtain ⟨r, hr⟩ := tok_dec xs
  obtain ⟨ok, hok⟩ : ∃ ok, opOkL k P.data.toList T.data.toList D.data.toList = ok := ⟨_, rfl⟩
  have HRR := Lib.hid hr
  have HOK := Lib.hid hok
  have HX := Lib.hid hX
  have HY := Lib.hid hY
  have HRD := Lib.hid hR
  have hpm : P.size ≤ maxLen := by unfold maxLen; omega
  have htm : T.size ≤ maxLen := by unfold maxLen; omega
  have hdm : D.size ≤ maxLen := by unfold maxLen; omega
  clear hr hok hX hY hR
  go_wp2_with fail
  refine wp_region_held_drew (S := fun w' => Below _ _ w') (by kernel_rfl) (below_drew _) (fun hHeld => ?_)
  refine tk (i := 0) (d := (some 29)) (v := ?_) rfl rfl (by kernel_rfl) (by kernel_rfl) (by kernel_rfl) (fun _ _ _ h => h) (Or.inl ⟨by rfl, ?_⟩) hHeld ?_
  rotate_left
  · intro w hSw; have zc0 := keepc hSw c0; have zc1' := keepc hSw c1'; have zc2' := keepc hSw c2'; have zc3' := keepc hSw c3'; clear hSw; go_simp <;> with_reducible rfl
  (try simp only [Act.put, List.setIfInBounds_toArray, List.set_cons_zero, List.set_cons_succ])
  refine tk (i := 1) (d := (some 30)) (v := ?_) rfl rfl (by kernel_rfl) (by kernel_rfl) (by kernel_rfl) (fun _ _ _ h => h) (Or.inl ⟨by rfl, ?_⟩) hHeld ?_
  rotate_left
  · intro w hSw; have zc0 := keepc hSw c0; have zc1' := keepc hSw c1'; have zc2' := keepc hSw c2'; have zc3' := keepc hSw c3'; clear hSw; go_simp <;> with_reducible rfl
  (try simp only [Act.put, List.setIfInBounds_toArray, List.set_cons_zero, List.set_cons_succ])
  refine tk (i := 2) (d := (some 31)) (v := ?_) rfl rfl (by kernel_rfl) (by kernel_rfl) (by kernel_rfl) (fun _ _ _ h => h) (Or.inl ⟨by rfl, ?_⟩) hHeld ?_
  rotate_left
  · intro w hSw; have zc0 := keepc hSw c0; have zc1' := keepc hSw c1'; have zc2' := keepc hSw c2'; have zc3' := keepc hSw c3'; clear hSw; go_simp <;> with_reducible rfl
  (try simp only [Act.put, List.setIfInBounds_toArray, List.set_cons_zero, List.set_cons_succ])
  refine tk (i := 3) (d := (some 32)) (v := ?_) rfl rfl (by kernel_rfl) (by kernel_rfl) (by kernel_rfl) (fun _ _ _ h => h) (Or.inl ⟨by rfl, ?_⟩) hHeld ?_
  rotate_left
  · intro w hSw; have zc0 := keepc hSw c0; have zc1' := keepc hSw c1'; have zc2' := keepc hSw c2'; have zc3' := keepc hSw c3'; clear hSw; go_simp <;> with_reducible rfl
  (try simp only [Act.put, List.setIfInBounds_toArray, List.set_cons_zero, List.set_cons_succ])
  refine tk (i := 4) (d := (some 33)) (v := ?_) rfl rfl (by kernel_rfl) (by kernel_rfl) (by kernel_rfl) (fun _ _ _ h => h) (Or.inl ⟨by rfl, ?_⟩) hHeld ?_
  rotate_left
  · intro w hSw; have zc0 := keepc hSw c0; have zc1' := keepc hSw c1'; have zc2' := keepc hSw c2'; have zc3' := keepc hSw c3'; clear hSw; go_simp <;> with_reducible rfl
  (try simp only [Act.put, List.setIfInBounds_toArray, List.set_cons_zero, List.set_cons_succ])
  refine tk (i := 5) (d := (some 34)) (v := ?_) rfl rfl (by kernel_rfl) (by kernel_rfl) (by kernel_rfl) (fun _ _ _ h => h) (Or.inl ⟨by rfl, ?_⟩) hHeld ?_
  rotate_left
  · intro w hSw; have zc0 := keepc hSw c0; have zc1' := keepc hSw c1'; have zc2' := keepc hSw c2'; have zc3' := keepc hSw c3'; clear hSw; go_simp <;> with_reducible rfl
  (try simp only [Act.put, List.setIfInBounds_toArray, List.set_cons_zero, List.set_cons_succ])
  refine wpAnyH_ready (rs := [6]) (by kernel_rfl) (by simp) ?_
  refine AllReadyH.cons rfl (fun K hK => ?_) AllReadyH.nil
  go_simp
  refine (sameL_c a2 a3 c2 c3 n3 n3 ms3 ms3 true (Lib.hid ⟨fun _ => rfl, fun _ => rfl⟩) _ HN2.out HN2.out (HX.out.below hHeld) (HY.out.below hHeld) (by omega) (by omega)).mono ?_; rintro e W ⟨rfl, hq⟩
  go_simp
  refine hK.out _ _ (chn hHeld hq) (fun h => ?_)
  clear hK K; replace hHeld := h; clear h hq
  (try simp only [Act.put, List.setIfInBounds_toArray, List.set_cons_zero, List.set_cons_succ])
  refine tk (i := 7) (d := (some 36)) (v := ?_) rfl rfl (by kernel_rfl) (by kernel_rfl) (by kernel_rfl) (fun _ _ _ h => h) (Or.inl ⟨by rfl, ?_⟩) hHeld ?_
  rotate_left
  · intro w hSw; have zc0 := keepc hSw c0; have zc1' := keepc hSw c1'; have zc2' := keepc hSw c2'; have zc3' := keepc hSw c3'; clear hSw; go_simp <;> with_reducible rfl
  (try simp only [Act.put, List.setIfInBounds_toArray, List.set_cons_zero, List.set_cons_succ])
  refine tk (i := 8) (d := (some 37)) (v := ?_) rfl rfl (by kernel_rfl) (by kernel_rfl) (by kernel_rfl) (fun _ _ _ h => h) (Or.inl ⟨by rfl, ?_⟩) hHeld ?_
  rotate_left
  · intro w hSw; have zc0 := keepc hSw c0; have zc1' := keepc hSw c1'; have zc2' := keepc hSw c2'; have zc3' := keepc hSw c3'; clear hSw; go_simp <;> with_reducible rfl
  (try simp only [Act.put, List.setIfInBounds_toArray, List.set_cons_zero, List.set_cons_succ])
  refine tk (i := 9) (d := (some 38)) (v := ?_) rfl rfl (by kernel_rfl) (by kernel_rfl) (by kernel_rfl) (fun _ _ _ h => h) (Or.inl ⟨by rfl, ?_⟩) hHeld ?_
  rotate_left
  · intro w hSw; have zc0 := keepc hSw c0; have zc1' := keepc hSw c1'; have zc2' := keepc hSw c2'; have zc3' := keepc hSw c3'; clear hSw; go_simp <;> with_reducible rfl
  (try simp only [Act.put, List.setIfInBounds_toArray, List.set_cons_zero, List.set_cons_succ])
  refine tk (i := 10) (d := (some 39)) (v := ?_) rfl rfl (by kernel_rfl) (by kernel_rfl) (by kernel_rfl) (fun _ _ _ h => h) (Or.inl ⟨by rfl, ?_⟩) hHeld ?_
  rotate_left
  · intro w hSw; have zc0 := keepc hSw c0; have zc1' := keepc hSw c1'; have zc2' := keepc hSw c2'; have zc3' := keepc hSw c3'; clear hSw; go_simp <;> with_reducible rfl
  (try simp only [Act.put, List.setIfInBounds_toArray, List.set_cons_zero, List.set_cons_succ])
  refine tk (i := 12) (d := (some 41)) (v := ?_) rfl rfl (by kernel_rfl) (by kernel_rfl) (by kernel_rfl) (fun _ _ _ h => h) (Or.inl ⟨by rfl, ?_⟩) hHeld ?_
  rotate_left
  · intro w hSw; have zc0 := keepc hSw c0; have zc1' := keepc hSw c1'; have zc2' := keepc hSw c2'; have zc3' := keepc hSw c3'; clear hSw; go_simp <;> with_reducible rfl
  (try simp only [Act.put, List.setIfInBounds_toArray, List.set_cons_zero, List.set_cons_succ])
  refine wpAnyH_ready (rs := [11]) (by kernel_rfl) (by simp) ?_
  refine AllReadyH.cons rfl (fun K hK => ?_) AllReadyH.nil
  go_simp
  refine (okT_c a1 c1 n1 xs r HRR _ HN1.out (HRD.out.below hHeld).sl (by omega) HZ.out).mono ?_; rintro e W ⟨rfl, hq⟩
  go_simp
  refine hK.out _ _ (chn hHeld hq) (fun h => ?_)
  clear hK K; replace hHeld := h; clear h hq
  (try simp only [Act.put, List.setIfInBounds_toArray, List.set_cons_zero, List.set_cons_succ])
  refine wpAnyH_ready (rs := [13]) (by kernel_rfl) (by simp) ?_
  refine AllReadyH.cons rfl (fun K hK => ?_) AllReadyH.nil
  go_simp
  refine (sOkT_c a1 c1 n1 xs r HRR _ HN1.out (HRD.out.below hHeld) (by omega) HZ.out).mono ?_; rintro e W ⟨rfl, hq⟩
  go_simp
  refine hK.out _ _ (chn hHeld hq) (fun h => ?_)
  clear hK K; replace hHeld := h; clear h hq
  (try simp only [Act.put, List.setIfInBounds_toArray, List.set_cons_zero, List.set_cons_succ])
  refine tk (i := 14) (d := (some 43)) (v := ?_) rfl rfl (by kernel_rfl) (by kernel_rfl) (by kernel_rfl) (fun _ _ _ h => h) (Or.inl ⟨by rfl, ?_⟩) hHeld ?_
  rotate_left
  · intro w hSw; have zc0 := keepc hSw c0; have zc1' := keepc hSw c1'; have zc2' := keepc hSw c2'; have zc3' := keepc hSw c3'; clear hSw; go_simp <;> with_reducible rfl
  (try simp only [Act.put, List.setIfInBounds_toArray, List.set_cons_zero, List.set_cons_succ])
  refine tk (i := 15) (d := (some 44)) (v := ?_) rfl rfl (by kernel_rfl) (by kernel_rfl) (by kernel_rfl) (fun _ _ _ h => h) (Or.inl ⟨by rfl, ?_⟩) hHeld ?_
  rotate_left
  · intro w hSw; have zc0 := keepc hSw c0; have zc1' := keepc hSw c1'; have zc2' := keepc hSw c2'; have zc3' := keepc hSw c3'; clear hSw; go_simp <;> with_reducible rfl
  (try simp only [Act.put, List.setIfInBounds_toArray, List.set_cons_zero, List.set_cons_succ])
  refine tk (i := 16) (d := (some 45)) (v := ?_) rfl rfl (by kernel_rfl) (by kernel_rfl) (by kernel_rfl) (fun _ _ _ h => h) (Or.inl ⟨by rfl, ?_⟩) hHeld ?_
  rotate_left
  · intro w hSw; have zc0 := keepc hSw c0; have zc1' := keepc hSw c1'; have zc2' := keepc hSw c2'; have zc3' := keepc hSw c3'; clear hSw; go_simp <;> with_reducible rfl
  (try simp only [Act.put, List.setIfInBounds_toArray, List.set_cons_zero, List.set_cons_succ])
  refine tk (i := 17) (d := (some 46)) (v := ?_) rfl rfl (by kernel_rfl) (by kernel_rfl) (by kernel_rfl) (fun _ _ _ h => h) (Or.inl ⟨by rfl, ?_⟩) hHeld ?_
  rotate_left
  · intro w hSw; have zc0 := keepc hSw c0; have zc1' := keepc hSw c1'; have zc2' := keepc hSw c2'; have zc3' := keepc hSw c3'; clear hSw; go_simp <;> with_reducible rfl
  (try simp only [Act.put, List.setIfInBounds_toArray, List.set_cons_zero, List.set_cons_succ])
  refine tk (i := 19) (d := (some 48)) (v := ?_) rfl rfl (by kernel_rfl) (by kernel_rfl) (by kernel_rfl) (fun _ _ _ h => h) (Or.inl ⟨by rfl, ?_⟩) hHeld ?_
  rotate_left
  · intro w hSw; have zc0 := keepc hSw c0; have zc1' := keepc hSw c1'; have zc2' := keepc hSw c2'; have zc3' := keepc hSw c3'; clear hSw; go_simp <;> with_reducible rfl
  (try simp only [Act.put, List.setIfInBounds_toArray, List.set_cons_zero, List.set_cons_succ])
  refine wpAnyH_ready (rs := [18]) (by kernel_rfl) (by simp) ?_
  refine AllReadyH.cons rfl (fun K hK => ?_) AllReadyH.nil
  go_simp
  refine (opOk_c k P T D ok HOK _ hpm htm hdm).mono ?_; rintro e W ⟨rfl, hq⟩
  go_simp
  refine hK.out _ _ (chn hHeld hq) (fun h => ?_)
  clear hK K; replace hHeld := h; clear h hq
  (try simp only [Act.put, List.setIfInBounds_toArray, List.set_cons_zero, List.set_cons_succ])
  refine wpAnyH_ready (rs := [20]) (by kernel_rfl) (by simp) ?_
  refine AllReadyH.cons rfl (fun K hK => ?_) AllReadyH.nil
  go_simp
  refine (sOpOk_c k P T D ok HOK _ hpm htm hdm).mono ?_; rintro e W ⟨rfl, hq⟩
  go_simp
  refine hK.out _ _ (chn hHeld hq) (fun h => ?_)
  clear hK K; replace hHeld := h; clear h hq
  (try simp only [Act.put, List.setIfInBounds_toArray, List.set_cons_zero, List.set_cons_succ])
  refine tk (i := 21) (d := (some 50)) (v := ?_) rfl rfl (by kernel_rfl) (by kernel_rfl) (by kernel_rfl) (fun _ _ _ h => h) (Or.inl ⟨by rfl, ?_⟩) hHeld ?_
  rotate_left
  · intro w hSw; have zc0 := keepc hSw c0; have zc1' := keepc hSw c1'; have zc2' := keepc hSw c2'; have zc3' := keepc hSw c3'; clear hSw; go_simp <;> with_reducible rfl
  (try simp only [Act.put, List.setIfInBounds_toArray, List.set_cons_zero, List.set_cons_succ])
  refine tk (i := 22) (d := (some 51)) (v := ?_) rfl rfl (by kernel_rfl) (by kernel_rfl) (by kernel_rfl) (fun _ _ _ h => h) (Or.inl ⟨by rfl, ?_⟩) hHeld ?_
  rotate_left
  · intro w hSw; have zc0 := keepc hSw c0; have zc1' := keepc hSw c1'; have zc2' := keepc hSw c2'; have zc3' := keepc hSw c3'; clear hSw; go_simp <;> with_reducible rfl
  (try simp only [Act.put, List.setIfInBounds_toArray, List.set_cons_zero, List.set_cons_succ])
  refine wpAnyH_done (by kernel_rfl) ?_ _
  replace hb := chn hb hHeld
  replace c0 := keepc hHeld c0
  replace c1' := keepc hHeld c1'
  replace c2' := keepc hHeld c2'
  replace c3' := keepc hHeld c3'
  have hX := HX.out.below hHeld
  have hR := HRD.out.below hHeld
  clear hHeld HX HY HRD
  have HSO := Lib.hid (fun W (h : ReadEn W a1 c1 xs) => sOkT_c a1 c1 n1 xs r HRR W HN1.out h (by omega) HZ.out)
  cases r with
  | false =>
    have hno : ¬ TOk (xs.map En.pl) := fun h => by have := HRR.out.2 h; cases this
    obtain rfl : C = 1 := by rw [← HC.out]; exact tcode_bad hno
    obtain rfl : n3 = 0 := by
      have h1 := congrArg List.length HMS.out
      rw [tdo_bad hno, List.length_map, HN2.out] at h1
      exact h1
    clear hno
    go_wp2_with fail
    refine (HSO.out _ hR).mono ?_; rintro e W ⟨rfl, hq⟩; replace hb := chn hb hq; clear hq
    go_wp2
    go_ret
    exact ⟨rfl, hb⟩
  | true =>
    have htok := HRR.out.1 rfl
    by_cases hC0 : C = 0
    · subst hC0
      have HTM : Hid (TOk (ms3.map En.pl)) := by rw [Hid, HMS.out]; exact tdo_tok htok
      have HSM := Lib.hid (tok_small HTM.out)
      have HOX := Lib.hid (fun W (h : InT W a2 c2 ms3) => okT_c a2 c2 n3 ms3 true (Lib.hid ⟨fun _ => HTM.out, fun _ => rfl⟩) W HN2.out h.1 (by omega) HSM.out)
      clear htok
      go_wp2_with fail
      refine (HSO.out _ hR).mono ?_; rintro e W ⟨rfl, hq⟩; replace hb := chn hb hq; replace hX := hX.below hq; clear hq
      go_wp2_with fail
      refine (HOX.out _ hX).mono ?_; rintro e W ⟨rfl, hq⟩; replace hb := chn hb hq; clear hq
      go_wp2
      go_ret
      exact ⟨rfl, hb⟩
    · have hne : ((C : Int) != 0) = true := by rw [bne_iff_ne]; omega
      have hsame := tdo_same htok (k := k) (p := P.data.toList) (r := T.data.toList) (x := D.data.toList) (by rw [HC.out]; exact hC0)
      obtain rfl : ms3 = xs := map_inj_ En.pl_inj (HMS.out.trans hsame)
      obtain rfl : n3 = n1 := HN2.out.symm.trans HN1.out
      have hc1 := tcode_1 htok (k := k) (p := P.data.toList) (r := T.data.toList) (x := D.data.toList)
      rw [HC.out, HOK.out] at hc1
      have HSC := Lib.hid (fun W (h : InT W a2 c2 ms3) (h' : InT W a1 c1 ms3) => sameL_c a2 a1 c2 c1 n3 n3 ms3 ms3 true (Lib.hid ⟨fun _ => rfl, fun _ => rfl⟩) W HN1.out HN1.out h h' (by omega) (by omega))
      clear htok hsame
      cases ok with
      | false =>
        obtain rfl : C = 1 := hc1.2 rfl
        clear hc1
        go_wp2_with fail
        refine (HSO.out _ hR).mono ?_; rintro e W ⟨rfl, hq⟩; replace hb := chn hb hq; replace hX := hX.below hq; replace hR := hR.below hq; replace c0 := keepc hq c0; replace c1' := keepc hq c1'; replace c2' := keepc hq c2'; replace c3' := keepc hq c3'; clear hq
        go_wp2_with fail
        refine (HSC.out _ hX hR.inT).mono ?_; rintro e W ⟨rfl, hq⟩; replace hb := chn hb hq; replace c0 := keepc hq c0; replace c1' := keepc hq c1'; replace c2' := keepc hq c2'; replace c3' := keepc hq c3'; clear hq
        go_wp2_with fail
        refine (opOk_c k P T D false HOK _ hpm htm hdm).mono ?_; rintro e W ⟨rfl, hq⟩; replace hb := chn hb hq; clear hq
        go_wp2
        go_ret
        exact ⟨rfl, hb⟩
      | true =>
        have hn1 : ((C : Int) == 1) = false := by
          rw [beq_eq_false_iff_ne]
          intro h9
          have h8 : C = 1 := by omega
          have := hc1.1 h8
          cases this
        clear hc1
        go_wp2_with fail
        refine (HSO.out _ hR).mono ?_; rintro e W ⟨rfl, hq⟩; replace hb := chn hb hq; replace hX := hX.below hq; replace hR := hR.below hq; replace c0 := keepc hq c0; replace c1' := keepc hq c1'; replace c2' := keepc hq c2'; replace c3' := keepc hq c3'; clear hq
        go_wp2_with fail
        refine (HSC.out _ hX hR.inT).mono ?_; rintro e W ⟨rfl, hq⟩; replace hb := chn hb hq; replace c0 := keepc hq c0; replace c1' := keepc hq c1'; replace c2' := keepc hq c2'; replace c3' := keepc hq c3'; clear hq
        go_wp2_with fail
        refine (opOk_c k P T D true HOK _ hpm htm hdm).mono ?_; rintro e W ⟨rfl, hq⟩; replace hb := chn hb hq; clear hq
        go_wp2
        go_ret
        exact ⟨rfl, hb⟩
end Go.Proofs.YtakbngafhogcbaaGreatDoor
