/- The walks of the reference's LayerOk, and of LayerHides of both. Conditions: texts are shorter than two million bytes, lists no longer than any can be. -/
import Derived.Test.YtkhbkhibjflgmaaDoorLayB
namespace Go.Proofs.YtkhbkhibjflgmaaDoor
open Go.RowKit
theorem upM_tk (xs : List Mk) (k : Nat) (q : Bs) : upM ((xs.map Mk.pl).take k) q = upM ((xs.take k).map Mk.pl) q := by rw [List.map_take]
/-- The marks so far are at paths. -/
theorem path_tk {xs : List Mk} {k : Nat} (h : ∀ (j : Nat) (e : Mk), j < k → xs[j]? = some e → MAskR xs j e) : ∀ m ∈ (xs.take k).map Mk.pl, pathOkL m.p = true := by
  intro m hm
  obtain ⟨e, he, rfl⟩ := List.mem_map.1 hm
  obtain ⟨j, hj⟩ := List.getElem?_of_mem he
  rw [List.getElem?_take] at hj
  split at hj
  · next hjk => exact markOk_path (h j e hjk hj).1
  · cases hj
set_option maxRecDepth 100000 in
set_option maxHeartbeats 8000000 in
theorem sLayerOk_c (a : Option Addr) (c : Nat) (xs : List Mk) (r : Bool) (hr : Hid (r = true ↔ LOk (xs.map Mk.pl))) (w : World) (hs : SlF Mk.cells w a xs) (hx : xs.length ≤ maxLen) (hc : xs.length ≤ c) (hz : ∀ e ∈ xs, e.p.size ≤ 2000000 ∧ e.x.size ≤ 2000000) :
    Calls Tryd.prog 28 #[.slice a xs.length c] w fun q w' => q = .returned (.bool r) ∧ Below w.heap.size w w' := by
  have hR : Hid (r = true ↔ xs.length ≤ 32 ∧ ∀ (k : Nat) (e : Mk), xs[k]? = some e → MAskR xs k e) := by rw [Hid, hr.out, lok_R]
  have HIN0 := fun (k : Nat) (hk : k ≤ xs.length) (q : ByteArray) (hq : q.size ≤ maxLen) (u : Bool) (hu : Hid (upM ((xs.take k).map Mk.pl) q.data.toList = u)) (W : World) (h : SlF Mk.cells W a xs) => Lib.hid ((by
      have h1 := l3In_c a c (xs.take k) q u hu W (h.take k) (by rw [List.length_take]; omega) hq
      rw [List.length_take, Nat.min_eq_left hk] at h1
      exact h1) : Calls Tryd.prog 82 #[.slice a k c, .string q] W fun e w' => e = .returned (.bool u) ∧ Below W.heap.size W w')
  have HBR0 := fun (k : Nat) (hk : k ≤ xs.length) (q : ByteArray) (hq : q.size ≤ 2000000) (u : Bool) (hu : Hid (((xs.take k).map Mk.pl).any (bareQ q.data.toList) = u)) (W : World) (h : SlF Mk.cells W a xs) => Lib.hid ((by
      have h1 := l3Bare_c a c (xs.take k) q u hu W (h.take k) (by rw [List.length_take]; omega) hq (fun e he => hz e (List.mem_of_mem_take he))
      rw [List.length_take, Nat.min_eq_left hk] at h1
      exact h1) : Calls Tryd.prog 83 #[.slice a k c, .string q] W fun e w' => e = .returned (.bool u) ∧ Below W.heap.size W w')
  have HZ := Lib.hid hz
  have HS := Lib.hid hs
  obtain ⟨n, hn⟩ : ∃ n, xs.length = n := ⟨_, rfl⟩
  have HN := Lib.hid hn
  rw [hn] at hR hx hc HIN0 HBR0 ⊢
  unfold maxLen at hx
  have GIN0 := Lib.hid HIN0
  have GBR0 := Lib.hid HBR0
  clear hn hz hs hr HIN0 HBR0
  have hno : Hid (∀ (k : Nat) (e : Mk), xs[k]? = some e → ¬ MAskR xs k e → r = false) := fun k e he hne => by
    cases r
    · rfl
    · exact absurd ((hR.out.1 rfl).2 k e he) hne
  go_enter Tryd.func28, Tryd.ntmps28
  go_wp2
  go_loopw [3, 4] (fun i _ wr => ∃ k : Nat, k ≤ n ∧ i = .int .i64 k ∧ (∀ (j : Nat) (e : Mk), j < k → xs[j]? = some e → MAskR xs j e) ∧ Below w.heap.size w wr) (fun i _ _ => n - (intOf i).toNat)
  case atStart => exact ⟨0, Nat.zero_le _, rfl, fun j _ h => absurd h (by omega), Below.refl _ _⟩
  case round =>
    obtain ⟨k, hk, rfl, hall, hb⟩ := hrel
    have HA := Lib.hid hall
    clear hall
    by_cases hlt : k < n
    · obtain ⟨e, hee⟩ : ∃ e, xs[k]? = some e := ⟨_, List.getElem?_eq_getElem (by rw [HN.out]; exact hlt)⟩
      have h2 := (HS.out.below hb)
      obtain ⟨b, off, rfl, _⟩ := h2.addr (by rw [HN.out]; omega)
      obtain ⟨d0, d1, d2⟩ := mk_at h2 k e hee
      have hzz := HZ.out e (List.mem_of_getElem? hee)
      have HNO := Lib.hid (fun h => hno.out k e hee h)
      have HEE := Lib.hid hee
      have h3 := h2
      clear h2 hee
      obtain ⟨ep, ek, ex⟩ := e
      have hz1 : ep.size ≤ maxLen := Nat.le_trans hzz.1 (by unfold maxLen; omega)
      have hz2 : ex.size ≤ maxLen := Nat.le_trans hzz.2 (by unfold maxLen; omega)
      have HZ1 := Lib.hid hz1
      have HZ2 := Lib.hid hz2
      have GIN := Lib.hid (fun u hu => GIN0.out k hk ep hz1 u hu)
      have GBR := Lib.hid (fun u hu => GBR0.out k hk ep hzz.1 u hu)
      have HRM : Hid (markOkL (Mk.pl ⟨ep, ek, ex⟩) = (decide (1 ≤ ek) && decide (ek ≤ 4) && pathOkL ep.data.toList && dataOkL ex.data.toList && (decide (ek = 1) || ex.data.toList == []))) := rfl
      clear hzz hz1 hz2
      have c0 := new_cell wr #[.string ep, .int .i64 ek, .string ex] 49 0 _ rfl
      have c1 := new_cell wr #[.string ep, .int .i64 ek, .string ex] 49 1 _ rfl
      have c2 := new_cell wr #[.string ep, .int .i64 ek, .string ex] 49 2 _ rfl
      replace hb := hb.alloc hb.size (.cells #[.string ep, .int .i64 ek, .string ex] 49)
      have HNM := Lib.hid (fun (h : markOkL (Mk.pl ⟨ep, ek, ex⟩) = false) => HNO.out (fun h' => by have := h'.1; rw [h] at this; cases this))
      by_cases klo : ek < 1
      · obtain rfl : r = false := HNM.out (by rw [HRM.out, decide_eq_false (p := 1 ≤ ek) (by omega)]; rfl)
        go_wp2
        go_ret
        exact ⟨rfl, by repeat (first | exact hb | refine Below.alloc ?_ (by have := hb.size; simp; try omega) _)⟩
      by_cases khi : 4 < ek
      · obtain rfl : r = false := HNM.out (by rw [HRM.out, decide_eq_false (p := ek ≤ 4) (by omega), Bool.and_false]; rfl)
        go_wp2
        go_ret
        exact ⟨rfl, by repeat (first | exact hb | refine Below.alloc ?_ (by have := hb.size; simp; try omega) _)⟩
      have h4 : decide (4 < ek) = false := by simp; omega
      have HRM2 : Hid (markOkL (Mk.pl ⟨ep, ek, ex⟩) = (pathOkL ep.data.toList && dataOkL ex.data.toList && (decide (ek = 1) || ex.data.toList == []))) := by rw [Hid, HRM.out, decide_eq_true (p := 1 ≤ ek) (by omega), decide_eq_true (p := ek ≤ 4) (by omega)]; rfl
      clear HRM
      obtain ⟨p1, hp1⟩ : ∃ x, pathOkL ep.data.toList = x := ⟨_, rfl⟩
      have HP1 := Lib.hid hp1
      clear hp1
      cases p1 with
      | false =>
        obtain rfl : r = false := HNM.out (by rw [HRM2.out, HP1.out]; rfl)
        go_wp2_with fail
        refine (sPathOk_c ep false HP1 _ HZ1.out).mono ?_; rintro e W ⟨rfl, hq⟩; replace hb := chn hb hq; replace c0 := keepc hq c0; replace c1 := keepc hq c1; replace c2 := keepc hq c2; clear hq
        go_wp2
        go_ret
        exact ⟨rfl, by repeat (first | exact hb | refine Below.alloc ?_ (by have := hb.size; simp; try omega) _)⟩
      | true =>
      obtain ⟨p2, hp2⟩ : ∃ x, dataOkL ex.data.toList = x := ⟨_, rfl⟩
      have HP2 := Lib.hid hp2
      clear hp2
      cases p2 with
      | false =>
        obtain rfl : r = false := HNM.out (by rw [HRM2.out, HP1.out, HP2.out]; rfl)
        go_wp2_with fail
        refine (sPathOk_c ep true HP1 _ HZ1.out).mono ?_; rintro e W ⟨rfl, hq⟩; replace hb := chn hb hq; replace c0 := keepc hq c0; replace c1 := keepc hq c1; replace c2 := keepc hq c2; clear hq
        go_wp2_with fail
        refine (l2Data_c ex false HP2 _ HZ2.out).mono ?_; rintro e' W' ⟨rfl, rfl⟩
        go_wp2
        go_ret
        exact ⟨rfl, by repeat (first | exact hb | refine Below.alloc ?_ (by have := hb.size; simp; try omega) _)⟩
      | true =>
      have HRM3 : Hid (markOkL (Mk.pl ⟨ep, ek, ex⟩) = (decide (ek = 1) || ex.data.toList == [])) := by rw [Hid, HRM2.out, HP1.out, HP2.out]; rfl
      clear HRM2
      by_cases hxx : ek ≠ 1 ∧ ex.data.toList ≠ []
      · obtain rfl : r = false := HNM.out (by rw [HRM3.out, beqE_no hxx.2, decide_eq_false hxx.1]; rfl)
        have n1 : (ek != 1) = true := by rw [bne_iff_ne]; exact hxx.1
        have q1 := isE_no hxx.2
        clear hxx
        go_wp2_with fail
        refine (sPathOk_c ep true HP1 _ HZ1.out).mono ?_; rintro e W ⟨rfl, hq⟩; replace hb := chn hb hq; replace c0 := keepc hq c0; replace c1 := keepc hq c1; replace c2 := keepc hq c2; clear hq
        go_wp2_with fail
        refine (l2Data_c ex true HP2 _ HZ2.out).mono ?_; rintro e' W' ⟨rfl, rfl⟩
        go_wp2
        go_ret
        exact ⟨rfl, by repeat (first | exact hb | refine Below.alloc ?_ (by have := hb.size; simp; try omega) _)⟩
      have HM1 : Hid (markOkL (Mk.pl ⟨ep, ek, ex⟩) = true) := by
        rw [Hid, HRM3.out, Bool.or_eq_true, decide_eq_true_eq, beq_iff_eq]
        by_cases h1 : ek = 1
        · exact .inl h1
        · exact .inr (Classical.byContradiction fun h => hxx ⟨h1, h⟩)
      have hk1 : (ek != 1) = false ∨ ((ek != 1) = true ∧ ex.toList.isEmpty = true) := by
        by_cases h1 : ek = 1
        · exact .inl (by simp [h1])
        · exact .inr ⟨by rw [bne_iff_ne]; exact h1, isE_yes (Classical.byContradiction fun h => hxx ⟨h1, h⟩)⟩
      obtain ⟨u, hu⟩ : ∃ u, upM ((xs.take k).map Mk.pl) ep.data.toList = u := ⟨_, rfl⟩
      obtain ⟨v, hv⟩ : ∃ v, ((xs.take k).map Mk.pl).any (bareQ ep.data.toList) = v := ⟨_, rfl⟩
      have HU := Lib.hid hu
      have HV := Lib.hid hv
      have HVB : Hid (bareL ((xs.map Mk.pl).take k) ep.data.toList = v) := by
        rw [Hid, ← List.map_take, ← bareQ_eq HP1.out (path_tk HA.out)]; exact hv
      clear hu hv hxx HRM3 HNM
      cases k with
      | zero =>
        rw [Nat.zero_mul, Nat.add_zero] at d0 d1 d2
        have ASK := Lib.hid (fun (h3 : upM ((xs.map Mk.pl).take 0) ep.data.toList = true) (h4 : 2 < ek → bareL ((xs.map Mk.pl).take 0) ep.data.toList = false) (j : Nat) (g : Mk) (hj : j < 0 + 1) (hg : xs[j]? = some g) => (by
          have ej : j = 0 := by omega
          subst ej
          rw [HEE.out] at hg
          injection hg with hg
          rw [← hg]
          exact ⟨HM1.out, fun _ h _ => absurd h (by omega), h3, h4⟩ : MAskR xs j g))
        clear h3
        have w4 : (0 : Int) ≤ (c : Int) := by omega
        rcases hk1 with n1 | ⟨n1, q1⟩
        all_goals
          go_wp2_with fail
          refine (sPathOk_c ep true HP1 _ HZ1.out).mono ?_; rintro e W ⟨rfl, hq⟩; replace hb := chn hb hq; replace c0 := keepc hq c0; replace c1 := keepc hq c1; replace c2 := keepc hq c2; clear hq
          go_wp2_with fail
          refine (l2Data_c ex true HP2 _ HZ2.out).mono ?_; rintro e' W' ⟨rfl, rfl⟩
          go_wp2_with fail
          refine wp_region_held_drew (S := fun w' => Below _ _ w') (by kernel_rfl) (below_drew _) (fun hHeld => ?_)
          refine tk (i := 0) (d := (some 45)) (v := ?_) rfl rfl (by kernel_rfl) (by kernel_rfl) (by kernel_rfl) (fun _ _ _ h => h) (Or.inl ⟨by rfl, ?_⟩) hHeld ?_
          rotate_left
          · intro w hSw; have zc0 := keepc hSw c0; have zc1 := keepc hSw c1; have zc2 := keepc hSw c2; clear hSw; go_simp <;> with_reducible rfl
          (try simp only [Act.put, List.setIfInBounds_toArray, List.set_cons_zero, List.set_cons_succ])
          refine tk (i := 1) (d := (some 46)) (v := ?_) rfl rfl (by kernel_rfl) (by kernel_rfl) (by kernel_rfl) (fun _ _ _ h => h) (Or.inl ⟨by rfl, ?_⟩) hHeld ?_
          rotate_left
          · intro w hSw; have zc0 := keepc hSw c0; have zc1 := keepc hSw c1; have zc2 := keepc hSw c2; clear hSw; go_simp <;> with_reducible rfl
          (try simp only [Act.put, List.setIfInBounds_toArray, List.set_cons_zero, List.set_cons_succ])
          refine tk (i := 2) (d := (some 47)) (v := ?_) rfl rfl (by kernel_rfl) (by kernel_rfl) (by kernel_rfl) (fun _ _ _ h => h) (Or.inl ⟨by rfl, ?_⟩) hHeld ?_
          rotate_left
          · intro w hSw; have zc0 := keepc hSw c0; have zc1 := keepc hSw c1; have zc2 := keepc hSw c2; clear hSw; go_simp <;> with_reducible rfl
          (try simp only [Act.put, List.setIfInBounds_toArray, List.set_cons_zero, List.set_cons_succ])
          refine tk (i := 3) (d := (some 48)) (v := undef) rfl rfl (by kernel_rfl) (by kernel_rfl) (by kernel_rfl) (fun _ _ _ h => h) (Or.inr ⟨by kernel_rfl, rfl⟩) hHeld ?_
          (try simp only [Act.put, List.setIfInBounds_toArray, List.set_cons_zero, List.set_cons_succ])
          refine tk (i := 4) (d := (some 49)) (v := undef) rfl rfl (by kernel_rfl) (by kernel_rfl) (by kernel_rfl) (fun _ _ _ h => h) (Or.inr ⟨by kernel_rfl, rfl⟩) hHeld ?_
          (try simp only [Act.put, List.setIfInBounds_toArray, List.set_cons_zero, List.set_cons_succ])
          refine tk (i := 5) (d := (some 50)) (v := undef) rfl rfl (by kernel_rfl) (by kernel_rfl) (by kernel_rfl) (fun _ _ _ h => h) (Or.inr ⟨by kernel_rfl, rfl⟩) hHeld ?_
          (try simp only [Act.put, List.setIfInBounds_toArray, List.set_cons_zero, List.set_cons_succ])
          refine tk (i := 6) (d := (some 51)) (v := undef) rfl rfl (by kernel_rfl) (by kernel_rfl) (by kernel_rfl) (fun _ _ _ h => h) (Or.inr ⟨by kernel_rfl, rfl⟩) hHeld ?_
          (try simp only [Act.put, List.setIfInBounds_toArray, List.set_cons_zero, List.set_cons_succ])
          refine tk (i := 7) (d := (some 52)) (v := undef) rfl rfl (by kernel_rfl) (by kernel_rfl) (by kernel_rfl) (fun _ _ _ h => h) (Or.inr ⟨by kernel_rfl, rfl⟩) hHeld ?_
          (try simp only [Act.put, List.setIfInBounds_toArray, List.set_cons_zero, List.set_cons_succ])
          refine tk (i := 8) (d := (some 53)) (v := undef) rfl rfl (by kernel_rfl) (by kernel_rfl) (by kernel_rfl) (fun _ _ _ h => h) (Or.inr ⟨by kernel_rfl, rfl⟩) hHeld ?_
          (try simp only [Act.put, List.setIfInBounds_toArray, List.set_cons_zero, List.set_cons_succ])
          refine tk (i := 9) (d := (some 54)) (v := undef) rfl rfl (by kernel_rfl) (by kernel_rfl) (by kernel_rfl) (fun _ _ _ h => h) (Or.inr ⟨by kernel_rfl, rfl⟩) hHeld ?_
          (try simp only [Act.put, List.setIfInBounds_toArray, List.set_cons_zero, List.set_cons_succ])
          refine tk (i := 10) (d := (some 55)) (v := undef) rfl rfl (by kernel_rfl) (by kernel_rfl) (by kernel_rfl) (fun _ _ _ h => h) (Or.inr ⟨by kernel_rfl, rfl⟩) hHeld ?_
          (try simp only [Act.put, List.setIfInBounds_toArray, List.set_cons_zero, List.set_cons_succ])
          refine tk (i := 11) (d := (some 56)) (v := undef) rfl rfl (by kernel_rfl) (by kernel_rfl) (by kernel_rfl) (fun _ _ _ h => h) (Or.inr ⟨by kernel_rfl, rfl⟩) hHeld ?_
          (try simp only [Act.put, List.setIfInBounds_toArray, List.set_cons_zero, List.set_cons_succ])
          refine tk (i := 12) (d := (some 57)) (v := ?_) rfl rfl (by kernel_rfl) (by kernel_rfl) (by kernel_rfl) (fun _ _ _ h => h) (Or.inl ⟨by rfl, ?_⟩) hHeld ?_
          rotate_left
          · intro w hSw; have zc0 := keepc hSw c0; have zc1 := keepc hSw c1; have zc2 := keepc hSw c2; clear hSw; go_simp <;> with_reducible rfl
          (try simp only [Act.put, List.setIfInBounds_toArray, List.set_cons_zero, List.set_cons_succ])
          refine tk (i := 13) (d := (some 58)) (v := ?_) rfl rfl (by kernel_rfl) (by kernel_rfl) (by kernel_rfl) (fun _ _ _ h => h) (Or.inl ⟨by rfl, ?_⟩) hHeld ?_
          rotate_left
          · intro w hSw; have zc0 := keepc hSw c0; have zc1 := keepc hSw c1; have zc2 := keepc hSw c2; clear hSw; go_simp <;> with_reducible rfl
          (try simp only [Act.put, List.setIfInBounds_toArray, List.set_cons_zero, List.set_cons_succ])
          refine tk (i := 14) (d := (some 59)) (v := ?_) rfl rfl (by kernel_rfl) (by kernel_rfl) (by kernel_rfl) (fun _ _ _ h => h) (Or.inl ⟨by rfl, ?_⟩) hHeld ?_
          rotate_left
          · intro w hSw; have zc0 := keepc hSw c0; have zc1 := keepc hSw c1; have zc2 := keepc hSw c2; clear hSw; go_simp <;> with_reducible rfl
          (try simp only [Act.put, List.setIfInBounds_toArray, List.set_cons_zero, List.set_cons_succ])
          refine tk (i := 15) (d := (some 60)) (v := ?_) rfl rfl (by kernel_rfl) (by kernel_rfl) (by kernel_rfl) (fun _ _ _ h => h) (Or.inl ⟨by rfl, ?_⟩) hHeld ?_
          rotate_left
          · intro w hSw; have zc0 := keepc hSw c0; have zc1 := keepc hSw c1; have zc2 := keepc hSw c2; clear hSw; go_simp <;> with_reducible rfl
          (try simp only [Act.put, List.setIfInBounds_toArray, List.set_cons_zero, List.set_cons_succ])
          refine tk (i := 16) (d := (some 61)) (v := ?_) rfl rfl (by kernel_rfl) (by kernel_rfl) (by kernel_rfl) (fun _ _ _ h => h) (Or.inl ⟨by rfl, ?_⟩) hHeld ?_
          rotate_left
          · intro w hSw; have zc0 := keepc hSw c0; have zc1 := keepc hSw c1; have zc2 := keepc hSw c2; clear hSw; go_simp <;> with_reducible rfl
          (try simp only [Act.put, List.setIfInBounds_toArray, List.set_cons_zero, List.set_cons_succ])
          refine tk (i := 17) (d := (some 62)) (v := ?_) rfl rfl (by kernel_rfl) (by kernel_rfl) (by kernel_rfl) (fun _ _ _ h => h) (Or.inl ⟨by rfl, ?_⟩) hHeld ?_
          rotate_left
          · intro w hSw; have zc0 := keepc hSw c0; have zc1 := keepc hSw c1; have zc2 := keepc hSw c2; clear hSw; go_simp <;> with_reducible rfl
          (try simp only [Act.put, List.setIfInBounds_toArray, List.set_cons_zero, List.set_cons_succ])
          refine tk (i := 18) (d := (some 63)) (v := ?_) rfl rfl (by kernel_rfl) (by kernel_rfl) (by kernel_rfl) (fun _ _ _ h => h) (Or.inl ⟨by rfl, ?_⟩) hHeld ?_
          rotate_left
          · intro w hSw; have zc0 := keepc hSw c0; have zc1 := keepc hSw c1; have zc2 := keepc hSw c2; clear hSw; go_simp <;> with_reducible rfl
          (try simp only [Act.put, List.setIfInBounds_toArray, List.set_cons_zero, List.set_cons_succ])
          refine wpAnyH_ready (rs := [19]) (by kernel_rfl) (by simp) ?_
          refine AllReadyH.cons rfl (fun K hK => ?_) AllReadyH.nil
          go_simp
          refine ((GIN.out u HU _ (HS.out.below (chn hb hHeld))).out).mono ?_; rintro e W ⟨rfl, hq⟩
          go_simp
          refine hK.out _ _ (chn hHeld hq) (fun h => ?_)
          clear hK K; replace hHeld := h; clear h hq
          (try simp only [Act.put, List.setIfInBounds_toArray, List.set_cons_zero, List.set_cons_succ])
          cases u with
          | false =>
            obtain rfl : r = false := HNO.out (fun h => by have h := h.2.2.1; rw [upM_tk] at h; exact absurd (HU.out.symm.trans h) (by simp))
            refine tk (i := 20) (d := (some 65)) (v := ?_) rfl rfl (by kernel_rfl) (by kernel_rfl) (by kernel_rfl) (fun _ _ _ h => h) (Or.inl ⟨by rfl, ?_⟩) hHeld ?_
            rotate_left
            · intro w hSw; have zc0 := keepc hSw c0; have zc1 := keepc hSw c1; have zc2 := keepc hSw c2; clear hSw; go_simp <;> with_reducible rfl
            (try simp only [Act.put, List.setIfInBounds_toArray, List.set_cons_zero, List.set_cons_succ])
            refine tk (i := 21) (d := (some 66)) (v := ?_) rfl rfl (by kernel_rfl) (by kernel_rfl) (by kernel_rfl) (fun _ _ _ h => h) (Or.inl ⟨by rfl, ?_⟩) hHeld ?_
            rotate_left
            · intro w hSw; have zc0 := keepc hSw c0; have zc1 := keepc hSw c1; have zc2 := keepc hSw c2; clear hSw; go_simp <;> with_reducible rfl
            (try simp only [Act.put, List.setIfInBounds_toArray, List.set_cons_zero, List.set_cons_succ])
            refine wpAnyH_done (by kernel_rfl) ?_ _
            replace hb := chn hb hHeld; clear hHeld
            go_wp2
            go_ret
            exact ⟨rfl, by repeat (first | exact hb | refine Below.alloc ?_ (by have := hb.size; simp; try omega) _)⟩
          | true =>
            refine tk (i := 20) (d := (some 65)) (v := ?_) rfl rfl (by kernel_rfl) (by kernel_rfl) (by kernel_rfl) (fun _ _ _ h => h) (Or.inl ⟨by rfl, ?_⟩) hHeld ?_
            rotate_left
            · intro w hSw; have zc0 := keepc hSw c0; have zc1 := keepc hSw c1; have zc2 := keepc hSw c2; clear hSw; go_simp <;> with_reducible rfl
            (try simp only [Act.put, List.setIfInBounds_toArray, List.set_cons_zero, List.set_cons_succ])
            refine tk (i := 21) (d := (some 66)) (v := ?_) rfl rfl (by kernel_rfl) (by kernel_rfl) (by kernel_rfl) (fun _ _ _ h => h) (Or.inl ⟨by rfl, ?_⟩) hHeld ?_
            rotate_left
            · intro w hSw; have zc0 := keepc hSw c0; have zc1 := keepc hSw c1; have zc2 := keepc hSw c2; clear hSw; go_simp <;> with_reducible rfl
            (try simp only [Act.put, List.setIfInBounds_toArray, List.set_cons_zero, List.set_cons_succ])
            refine wpAnyH_done (by kernel_rfl) ?_ _
            replace hb := chn hb hHeld; replace c0 := keepc hHeld c0; replace c1 := keepc hHeld c1; replace c2 := keepc hHeld c2; clear hHeld
            have HUQ := Lib.hid ((upM_tk xs 0 ep.data.toList).trans HU.out)
            by_cases k3 : 2 < ek
            · have d3 : decide (2 < ek) = true := by simp; omega
              go_wp2_with fail
              refine wp_region_held_drew (S := fun w' => Below _ _ w') (by kernel_rfl) (below_drew _) (fun hHeld => ?_)
              refine tk (i := 0) (d := (some 67)) (v := ?_) rfl rfl (by kernel_rfl) (by kernel_rfl) (by kernel_rfl) (fun _ _ _ h => h) (Or.inl ⟨by rfl, ?_⟩) hHeld ?_
              rotate_left
              · intro w hSw; have zc0 := keepc hSw c0; have zc1 := keepc hSw c1; have zc2 := keepc hSw c2; clear hSw; go_simp <;> with_reducible rfl
              (try simp only [Act.put, List.setIfInBounds_toArray, List.set_cons_zero, List.set_cons_succ])
              refine tk (i := 1) (d := (some 68)) (v := ?_) rfl rfl (by kernel_rfl) (by kernel_rfl) (by kernel_rfl) (fun _ _ _ h => h) (Or.inl ⟨by rfl, ?_⟩) hHeld ?_
              rotate_left
              · intro w hSw; have zc0 := keepc hSw c0; have zc1 := keepc hSw c1; have zc2 := keepc hSw c2; clear hSw; go_simp <;> with_reducible rfl
              (try simp only [Act.put, List.setIfInBounds_toArray, List.set_cons_zero, List.set_cons_succ])
              refine tk (i := 2) (d := (some 69)) (v := ?_) rfl rfl (by kernel_rfl) (by kernel_rfl) (by kernel_rfl) (fun _ _ _ h => h) (Or.inl ⟨by rfl, ?_⟩) hHeld ?_
              rotate_left
              · intro w hSw; have zc0 := keepc hSw c0; have zc1 := keepc hSw c1; have zc2 := keepc hSw c2; clear hSw; go_simp <;> with_reducible rfl
              (try simp only [Act.put, List.setIfInBounds_toArray, List.set_cons_zero, List.set_cons_succ])
              refine tk (i := 3) (d := (some 70)) (v := ?_) rfl rfl (by kernel_rfl) (by kernel_rfl) (by kernel_rfl) (fun _ _ _ h => h) (Or.inl ⟨by rfl, ?_⟩) hHeld ?_
              rotate_left
              · intro w hSw; have zc0 := keepc hSw c0; have zc1 := keepc hSw c1; have zc2 := keepc hSw c2; clear hSw; go_simp <;> with_reducible rfl
              (try simp only [Act.put, List.setIfInBounds_toArray, List.set_cons_zero, List.set_cons_succ])
              refine tk (i := 4) (d := (some 71)) (v := ?_) rfl rfl (by kernel_rfl) (by kernel_rfl) (by kernel_rfl) (fun _ _ _ h => h) (Or.inl ⟨by rfl, ?_⟩) hHeld ?_
              rotate_left
              · intro w hSw; have zc0 := keepc hSw c0; have zc1 := keepc hSw c1; have zc2 := keepc hSw c2; clear hSw; go_simp <;> with_reducible rfl
              (try simp only [Act.put, List.setIfInBounds_toArray, List.set_cons_zero, List.set_cons_succ])
              refine tk (i := 5) (d := (some 72)) (v := ?_) rfl rfl (by kernel_rfl) (by kernel_rfl) (by kernel_rfl) (fun _ _ _ h => h) (Or.inl ⟨by rfl, ?_⟩) hHeld ?_
              rotate_left
              · intro w hSw; have zc0 := keepc hSw c0; have zc1 := keepc hSw c1; have zc2 := keepc hSw c2; clear hSw; go_simp <;> with_reducible rfl
              (try simp only [Act.put, List.setIfInBounds_toArray, List.set_cons_zero, List.set_cons_succ])
              refine tk (i := 6) (d := (some 73)) (v := ?_) rfl rfl (by kernel_rfl) (by kernel_rfl) (by kernel_rfl) (fun _ _ _ h => h) (Or.inl ⟨by rfl, ?_⟩) hHeld ?_
              rotate_left
              · intro w hSw; have zc0 := keepc hSw c0; have zc1 := keepc hSw c1; have zc2 := keepc hSw c2; clear hSw; go_simp <;> with_reducible rfl
              (try simp only [Act.put, List.setIfInBounds_toArray, List.set_cons_zero, List.set_cons_succ])
              refine tk (i := 7) (d := (some 74)) (v := ?_) rfl rfl (by kernel_rfl) (by kernel_rfl) (by kernel_rfl) (fun _ _ _ h => h) (Or.inl ⟨by rfl, ?_⟩) hHeld ?_
              rotate_left
              · intro w hSw; have zc0 := keepc hSw c0; have zc1 := keepc hSw c1; have zc2 := keepc hSw c2; clear hSw; go_simp <;> with_reducible rfl
              (try simp only [Act.put, List.setIfInBounds_toArray, List.set_cons_zero, List.set_cons_succ])
              refine tk (i := 8) (d := (some 75)) (v := ?_) rfl rfl (by kernel_rfl) (by kernel_rfl) (by kernel_rfl) (fun _ _ _ h => h) (Or.inl ⟨by rfl, ?_⟩) hHeld ?_
              rotate_left
              · intro w hSw; have zc0 := keepc hSw c0; have zc1 := keepc hSw c1; have zc2 := keepc hSw c2; clear hSw; go_simp <;> with_reducible rfl
              (try simp only [Act.put, List.setIfInBounds_toArray, List.set_cons_zero, List.set_cons_succ])
              refine wpAnyH_ready (rs := [9]) (by kernel_rfl) (by simp) ?_
              refine AllReadyH.cons rfl (fun K hK => ?_) AllReadyH.nil
              go_simp
              refine ((GBR.out v HV _ (HS.out.below (chn hb hHeld))).out).mono ?_; rintro e W ⟨rfl, hq⟩
              go_simp
              refine hK.out _ _ (chn hHeld hq) (fun h => ?_)
              clear hK K; replace hHeld := h; clear h hq
              (try simp only [Act.put, List.setIfInBounds_toArray, List.set_cons_zero, List.set_cons_succ])
              cases v with
              | true =>
                obtain rfl : r = false := HNO.out (fun h => by have h := h.2.2.2 k3; exact absurd ((HVB.out).symm.trans h) (by simp))
                refine tk (i := 10) (d := (some 77)) (v := ?_) rfl rfl (by kernel_rfl) (by kernel_rfl) (by kernel_rfl) (fun _ _ _ h => h) (Or.inl ⟨by rfl, ?_⟩) hHeld ?_
                rotate_left
                · intro w hSw; have zc0 := keepc hSw c0; have zc1 := keepc hSw c1; have zc2 := keepc hSw c2; clear hSw; go_simp <;> with_reducible rfl
                (try simp only [Act.put, List.setIfInBounds_toArray, List.set_cons_zero, List.set_cons_succ])
                refine wpAnyH_done (by kernel_rfl) ?_ _
                replace hb := chn hb hHeld; clear hHeld
                go_wp2
                go_ret
                exact ⟨rfl, by repeat (first | exact hb | refine Below.alloc ?_ (by have := hb.size; simp; try omega) _)⟩
              | false =>
                refine tk (i := 10) (d := (some 77)) (v := ?_) rfl rfl (by kernel_rfl) (by kernel_rfl) (by kernel_rfl) (fun _ _ _ h => h) (Or.inl ⟨by rfl, ?_⟩) hHeld ?_
                rotate_left
                · intro w hSw; have zc0 := keepc hSw c0; have zc1 := keepc hSw c1; have zc2 := keepc hSw c2; clear hSw; go_simp <;> with_reducible rfl
                (try simp only [Act.put, List.setIfInBounds_toArray, List.set_cons_zero, List.set_cons_succ])
                refine wpAnyH_done (by kernel_rfl) ?_ _
                replace hb := chn hb hHeld; clear hHeld
                go_wp2
                go_roundw
                case rel => exact ⟨(0+1), by omega, by go_num, ASK.out HUQ.out (fun _ => HVB.out), by repeat (first | exact hb | refine Below.alloc ?_ (by have := hb.size; simp; try omega) _)⟩
                case measure => simp [intOf]; omega
            · have d3 : decide (2 < ek) = false := by simp; omega
              go_wp2_with fail
              refine wp_region_held_drew (S := fun w' => Below _ _ w') (by kernel_rfl) (below_drew _) (fun hHeld => ?_)
              refine tk (i := 0) (d := (some 67)) (v := ?_) rfl rfl (by kernel_rfl) (by kernel_rfl) (by kernel_rfl) (fun _ _ _ h => h) (Or.inl ⟨by rfl, ?_⟩) hHeld ?_
              rotate_left
              · intro w hSw; have zc0 := keepc hSw c0; have zc1 := keepc hSw c1; have zc2 := keepc hSw c2; clear hSw; go_simp <;> with_reducible rfl
              (try simp only [Act.put, List.setIfInBounds_toArray, List.set_cons_zero, List.set_cons_succ])
              refine tk (i := 1) (d := (some 68)) (v := ?_) rfl rfl (by kernel_rfl) (by kernel_rfl) (by kernel_rfl) (fun _ _ _ h => h) (Or.inl ⟨by rfl, ?_⟩) hHeld ?_
              rotate_left
              · intro w hSw; have zc0 := keepc hSw c0; have zc1 := keepc hSw c1; have zc2 := keepc hSw c2; clear hSw; go_simp <;> with_reducible rfl
              (try simp only [Act.put, List.setIfInBounds_toArray, List.set_cons_zero, List.set_cons_succ])
              refine tk (i := 2) (d := (some 69)) (v := ?_) rfl rfl (by kernel_rfl) (by kernel_rfl) (by kernel_rfl) (fun _ _ _ h => h) (Or.inl ⟨by rfl, ?_⟩) hHeld ?_
              rotate_left
              · intro w hSw; have zc0 := keepc hSw c0; have zc1 := keepc hSw c1; have zc2 := keepc hSw c2; clear hSw; go_simp <;> with_reducible rfl
              (try simp only [Act.put, List.setIfInBounds_toArray, List.set_cons_zero, List.set_cons_succ])
              refine tk (i := 3) (d := (some 70)) (v := ?_) rfl rfl (by kernel_rfl) (by kernel_rfl) (by kernel_rfl) (fun _ _ _ h => h) (Or.inl ⟨by rfl, ?_⟩) hHeld ?_
              rotate_left
              · intro w hSw; have zc0 := keepc hSw c0; have zc1 := keepc hSw c1; have zc2 := keepc hSw c2; clear hSw; go_simp <;> with_reducible rfl
              (try simp only [Act.put, List.setIfInBounds_toArray, List.set_cons_zero, List.set_cons_succ])
              refine tk (i := 4) (d := (some 71)) (v := undef) rfl rfl (by kernel_rfl) (by kernel_rfl) (by kernel_rfl) (fun _ _ _ h => h) (Or.inr ⟨by kernel_rfl, rfl⟩) hHeld ?_
              (try simp only [Act.put, List.setIfInBounds_toArray, List.set_cons_zero, List.set_cons_succ])
              refine tk (i := 5) (d := (some 72)) (v := undef) rfl rfl (by kernel_rfl) (by kernel_rfl) (by kernel_rfl) (fun _ _ _ h => h) (Or.inr ⟨by kernel_rfl, rfl⟩) hHeld ?_
              (try simp only [Act.put, List.setIfInBounds_toArray, List.set_cons_zero, List.set_cons_succ])
              refine tk (i := 6) (d := (some 73)) (v := undef) rfl rfl (by kernel_rfl) (by kernel_rfl) (by kernel_rfl) (fun _ _ _ h => h) (Or.inr ⟨by kernel_rfl, rfl⟩) hHeld ?_
              (try simp only [Act.put, List.setIfInBounds_toArray, List.set_cons_zero, List.set_cons_succ])
              refine tk (i := 7) (d := (some 74)) (v := undef) rfl rfl (by kernel_rfl) (by kernel_rfl) (by kernel_rfl) (fun _ _ _ h => h) (Or.inr ⟨by kernel_rfl, rfl⟩) hHeld ?_
              (try simp only [Act.put, List.setIfInBounds_toArray, List.set_cons_zero, List.set_cons_succ])
              refine tk (i := 8) (d := (some 75)) (v := undef) rfl rfl (by kernel_rfl) (by kernel_rfl) (by kernel_rfl) (fun _ _ _ h => h) (Or.inr ⟨by kernel_rfl, rfl⟩) hHeld ?_
              (try simp only [Act.put, List.setIfInBounds_toArray, List.set_cons_zero, List.set_cons_succ])
              refine tk (i := 9) (d := (some 76)) (v := undef) rfl rfl (by kernel_rfl) (by kernel_rfl) (by kernel_rfl) (fun _ _ _ h => h) (Or.inr ⟨by kernel_rfl, rfl⟩) hHeld ?_
              (try simp only [Act.put, List.setIfInBounds_toArray, List.set_cons_zero, List.set_cons_succ])
              refine tk (i := 10) (d := (some 77)) (v := ?_) rfl rfl (by kernel_rfl) (by kernel_rfl) (by kernel_rfl) (fun _ _ _ h => h) (Or.inl ⟨by rfl, ?_⟩) hHeld ?_
              rotate_left
              · intro w hSw; have zc0 := keepc hSw c0; have zc1 := keepc hSw c1; have zc2 := keepc hSw c2; clear hSw; go_simp <;> with_reducible rfl
              (try simp only [Act.put, List.setIfInBounds_toArray, List.set_cons_zero, List.set_cons_succ])
              refine wpAnyH_done (by kernel_rfl) ?_ _
              replace hb := chn hb hHeld; clear hHeld
              go_wp2
              go_roundw
              case rel => exact ⟨(0+1), by omega, by go_num, ASK.out HUQ.out (fun h => (by exfalso; omega)), by repeat (first | exact hb | refine Below.alloc ?_ (by have := hb.size; simp; try omega) _)⟩
              case measure => simp [intOf]; omega
      | succ k =>
        obtain ⟨f, hff⟩ : ∃ f, xs[k]? = some f := ⟨_, List.getElem?_eq_getElem (by rw [HN.out]; omega)⟩
        obtain ⟨c3, _, _⟩ := mk_at h3 k f hff
        replace c3 := keepc (bellow_alloc wr (.cells #[.string ep, .int .i64 ek, .string ex] 49)) c3
        have HFF := Lib.hid hff
        clear hff h3
        have w0 : IntKind.i64.wrap (k : Int) = (k : Int) := IntWalk.i64_in _ (by omega)
        have w1 : (0 : Int) ≤ (k : Int) := by omega
        have w2 : (k : Int) < (n : Int) := by omega
        have w3 : (0 : Int) ≤ (k : Int) + 1 := by omega
        have w4 : (k : Int) + 1 ≤ (c : Int) := by omega
        rcases Bool.eq_false_or_eq_true (Op.bytesLess f.p.toList ep.toList) with hle | hle
        · have HLE := Lib.hid hle
          have ASK := Lib.hid (fun (h3 : upM ((xs.map Mk.pl).take (k + 1)) ep.data.toList = true) (h4 : 2 < ek → bareL ((xs.map Mk.pl).take (k + 1)) ep.data.toList = false) (j : Nat) (g : Mk) (hj : j < k + 1 + 1) (hg : xs[j]? = some g) => (by
            by_cases ej : j = k + 1
            · subst ej
              rw [HEE.out] at hg
              injection hg with hg
              rw [← hg]
              exact ⟨HM1.out, mless_of xs k f ⟨ep, ek, ex⟩ HFF.out HLE.out, h3, h4⟩
            · exact HA.out j g (by omega) hg : MAskR xs j g))
          rcases hk1 with n1 | ⟨n1, q1⟩
          all_goals
            go_wp2_with fail
            refine (sPathOk_c ep true HP1 _ HZ1.out).mono ?_; rintro e W ⟨rfl, hq⟩; replace hb := chn hb hq; replace c0 := keepc hq c0; replace c1 := keepc hq c1; replace c2 := keepc hq c2; replace c3 := keepc hq c3; clear hq
            go_wp2_with fail
            refine (l2Data_c ex true HP2 _ HZ2.out).mono ?_; rintro e' W' ⟨rfl, rfl⟩
            go_wp2_with fail
            refine wp_region_held_drew (S := fun w' => Below _ _ w') (by kernel_rfl) (below_drew _) (fun hHeld => ?_)
            refine tk (i := 0) (d := (some 45)) (v := ?_) rfl rfl (by kernel_rfl) (by kernel_rfl) (by kernel_rfl) (fun _ _ _ h => h) (Or.inl ⟨by rfl, ?_⟩) hHeld ?_
            rotate_left
            · intro w hSw; have zc0 := keepc hSw c0; have zc1 := keepc hSw c1; have zc2 := keepc hSw c2; have zc3 := keepc hSw c3; clear hSw; go_simp <;> with_reducible rfl
            (try simp only [Act.put, List.setIfInBounds_toArray, List.set_cons_zero, List.set_cons_succ])
            refine tk (i := 1) (d := (some 46)) (v := ?_) rfl rfl (by kernel_rfl) (by kernel_rfl) (by kernel_rfl) (fun _ _ _ h => h) (Or.inl ⟨by rfl, ?_⟩) hHeld ?_
            rotate_left
            · intro w hSw; have zc0 := keepc hSw c0; have zc1 := keepc hSw c1; have zc2 := keepc hSw c2; have zc3 := keepc hSw c3; clear hSw; go_simp <;> with_reducible rfl
            (try simp only [Act.put, List.setIfInBounds_toArray, List.set_cons_zero, List.set_cons_succ])
            refine tk (i := 2) (d := (some 47)) (v := ?_) rfl rfl (by kernel_rfl) (by kernel_rfl) (by kernel_rfl) (fun _ _ _ h => h) (Or.inl ⟨by rfl, ?_⟩) hHeld ?_
            rotate_left
            · intro w hSw; have zc0 := keepc hSw c0; have zc1 := keepc hSw c1; have zc2 := keepc hSw c2; have zc3 := keepc hSw c3; clear hSw; go_simp <;> with_reducible rfl
            (try simp only [Act.put, List.setIfInBounds_toArray, List.set_cons_zero, List.set_cons_succ])
            refine tk (i := 3) (d := (some 48)) (v := ?_) rfl rfl (by kernel_rfl) (by kernel_rfl) (by kernel_rfl) (fun _ _ _ h => h) (Or.inl ⟨by rfl, ?_⟩) hHeld ?_
            rotate_left
            · intro w hSw; have zc0 := keepc hSw c0; have zc1 := keepc hSw c1; have zc2 := keepc hSw c2; have zc3 := keepc hSw c3; clear hSw; go_simp <;> with_reducible rfl
            (try simp only [Act.put, List.setIfInBounds_toArray, List.set_cons_zero, List.set_cons_succ])
            refine tk (i := 4) (d := (some 49)) (v := ?_) rfl rfl (by kernel_rfl) (by kernel_rfl) (by kernel_rfl) (fun _ _ _ h => h) (Or.inl ⟨by rfl, ?_⟩) hHeld ?_
            rotate_left
            · intro w hSw; have zc0 := keepc hSw c0; have zc1 := keepc hSw c1; have zc2 := keepc hSw c2; have zc3 := keepc hSw c3; clear hSw; go_simp <;> with_reducible rfl
            (try simp only [Act.put, List.setIfInBounds_toArray, List.set_cons_zero, List.set_cons_succ])
            refine tk (i := 5) (d := (some 50)) (v := ?_) rfl rfl (by kernel_rfl) (by kernel_rfl) (by kernel_rfl) (fun _ _ _ h => h) (Or.inl ⟨by rfl, ?_⟩) hHeld ?_
            rotate_left
            · intro w hSw; have zc0 := keepc hSw c0; have zc1 := keepc hSw c1; have zc2 := keepc hSw c2; have zc3 := keepc hSw c3; clear hSw; go_simp <;> with_reducible rfl
            (try simp only [Act.put, List.setIfInBounds_toArray, List.set_cons_zero, List.set_cons_succ])
            refine tk (i := 6) (d := (some 51)) (v := ?_) rfl rfl (by kernel_rfl) (by kernel_rfl) (by kernel_rfl) (fun _ _ _ h => h) (Or.inl ⟨by rfl, ?_⟩) hHeld ?_
            rotate_left
            · intro w hSw; have zc0 := keepc hSw c0; have zc1 := keepc hSw c1; have zc2 := keepc hSw c2; have zc3 := keepc hSw c3; clear hSw; go_simp <;> with_reducible rfl
            (try simp only [Act.put, List.setIfInBounds_toArray, List.set_cons_zero, List.set_cons_succ])
            refine tk (i := 7) (d := (some 52)) (v := ?_) rfl rfl (by kernel_rfl) (by kernel_rfl) (by kernel_rfl) (fun _ _ _ h => h) (Or.inl ⟨by rfl, ?_⟩) hHeld ?_
            rotate_left
            · intro w hSw; have zc0 := keepc hSw c0; have zc1 := keepc hSw c1; have zc2 := keepc hSw c2; have zc3 := keepc hSw c3; clear hSw; go_simp <;> with_reducible rfl
            (try simp only [Act.put, List.setIfInBounds_toArray, List.set_cons_zero, List.set_cons_succ])
            refine tk (i := 8) (d := (some 53)) (v := ?_) rfl rfl (by kernel_rfl) (by kernel_rfl) (by kernel_rfl) (fun _ _ _ h => h) (Or.inl ⟨by rfl, ?_⟩) hHeld ?_
            rotate_left
            · intro w hSw; have zc0 := keepc hSw c0; have zc1 := keepc hSw c1; have zc2 := keepc hSw c2; have zc3 := keepc hSw c3; clear hSw; go_simp <;> with_reducible rfl
            (try simp only [Act.put, List.setIfInBounds_toArray, List.set_cons_zero, List.set_cons_succ])
            refine tk (i := 9) (d := (some 54)) (v := ?_) rfl rfl (by kernel_rfl) (by kernel_rfl) (by kernel_rfl) (fun _ _ _ h => h) (Or.inl ⟨by rfl, ?_⟩) hHeld ?_
            rotate_left
            · intro w hSw; have zc0 := keepc hSw c0; have zc1 := keepc hSw c1; have zc2 := keepc hSw c2; have zc3 := keepc hSw c3; clear hSw; go_simp <;> with_reducible rfl
            (try simp only [Act.put, List.setIfInBounds_toArray, List.set_cons_zero, List.set_cons_succ])
            refine tk (i := 10) (d := (some 55)) (v := ?_) rfl rfl (by kernel_rfl) (by kernel_rfl) (by kernel_rfl) (fun _ _ _ h => h) (Or.inl ⟨by rfl, ?_⟩) hHeld ?_
            rotate_left
            · intro w hSw; have zc0 := keepc hSw c0; have zc1 := keepc hSw c1; have zc2 := keepc hSw c2; have zc3 := keepc hSw c3; clear hSw; go_simp <;> with_reducible rfl
            (try simp only [Act.put, List.setIfInBounds_toArray, List.set_cons_zero, List.set_cons_succ])
            refine tk (i := 11) (d := (some 56)) (v := ?_) rfl rfl (by kernel_rfl) (by kernel_rfl) (by kernel_rfl) (fun _ _ _ h => h) (Or.inl ⟨by rfl, ?_⟩) hHeld ?_
            rotate_left
            · intro w hSw; have zc0 := keepc hSw c0; have zc1 := keepc hSw c1; have zc2 := keepc hSw c2; have zc3 := keepc hSw c3; clear hSw; go_simp <;> with_reducible rfl
            (try simp only [Act.put, List.setIfInBounds_toArray, List.set_cons_zero, List.set_cons_succ])
            refine tk (i := 12) (d := (some 57)) (v := ?_) rfl rfl (by kernel_rfl) (by kernel_rfl) (by kernel_rfl) (fun _ _ _ h => h) (Or.inl ⟨by rfl, ?_⟩) hHeld ?_
            rotate_left
            · intro w hSw; have zc0 := keepc hSw c0; have zc1 := keepc hSw c1; have zc2 := keepc hSw c2; have zc3 := keepc hSw c3; clear hSw; go_simp <;> with_reducible rfl
            (try simp only [Act.put, List.setIfInBounds_toArray, List.set_cons_zero, List.set_cons_succ])
            refine tk (i := 13) (d := (some 58)) (v := ?_) rfl rfl (by kernel_rfl) (by kernel_rfl) (by kernel_rfl) (fun _ _ _ h => h) (Or.inl ⟨by rfl, ?_⟩) hHeld ?_
            rotate_left
            · intro w hSw; have zc0 := keepc hSw c0; have zc1 := keepc hSw c1; have zc2 := keepc hSw c2; have zc3 := keepc hSw c3; clear hSw; go_simp <;> with_reducible rfl
            (try simp only [Act.put, List.setIfInBounds_toArray, List.set_cons_zero, List.set_cons_succ])
            refine tk (i := 14) (d := (some 59)) (v := ?_) rfl rfl (by kernel_rfl) (by kernel_rfl) (by kernel_rfl) (fun _ _ _ h => h) (Or.inl ⟨by rfl, ?_⟩) hHeld ?_
            rotate_left
            · intro w hSw; have zc0 := keepc hSw c0; have zc1 := keepc hSw c1; have zc2 := keepc hSw c2; have zc3 := keepc hSw c3; clear hSw; go_simp <;> with_reducible rfl
            (try simp only [Act.put, List.setIfInBounds_toArray, List.set_cons_zero, List.set_cons_succ])
            refine tk (i := 15) (d := (some 60)) (v := ?_) rfl rfl (by kernel_rfl) (by kernel_rfl) (by kernel_rfl) (fun _ _ _ h => h) (Or.inl ⟨by rfl, ?_⟩) hHeld ?_
            rotate_left
            · intro w hSw; have zc0 := keepc hSw c0; have zc1 := keepc hSw c1; have zc2 := keepc hSw c2; have zc3 := keepc hSw c3; clear hSw; go_simp <;> with_reducible rfl
            (try simp only [Act.put, List.setIfInBounds_toArray, List.set_cons_zero, List.set_cons_succ])
            refine tk (i := 16) (d := (some 61)) (v := ?_) rfl rfl (by kernel_rfl) (by kernel_rfl) (by kernel_rfl) (fun _ _ _ h => h) (Or.inl ⟨by rfl, ?_⟩) hHeld ?_
            rotate_left
            · intro w hSw; have zc0 := keepc hSw c0; have zc1 := keepc hSw c1; have zc2 := keepc hSw c2; have zc3 := keepc hSw c3; clear hSw; go_simp <;> with_reducible rfl
            (try simp only [Act.put, List.setIfInBounds_toArray, List.set_cons_zero, List.set_cons_succ])
            refine tk (i := 17) (d := (some 62)) (v := ?_) rfl rfl (by kernel_rfl) (by kernel_rfl) (by kernel_rfl) (fun _ _ _ h => h) (Or.inl ⟨by rfl, ?_⟩) hHeld ?_
            rotate_left
            · intro w hSw; have zc0 := keepc hSw c0; have zc1 := keepc hSw c1; have zc2 := keepc hSw c2; have zc3 := keepc hSw c3; clear hSw; go_simp <;> with_reducible rfl
            (try simp only [Act.put, List.setIfInBounds_toArray, List.set_cons_zero, List.set_cons_succ])
            refine tk (i := 18) (d := (some 63)) (v := ?_) rfl rfl (by kernel_rfl) (by kernel_rfl) (by kernel_rfl) (fun _ _ _ h => h) (Or.inl ⟨by rfl, ?_⟩) hHeld ?_
            rotate_left
            · intro w hSw; have zc0 := keepc hSw c0; have zc1 := keepc hSw c1; have zc2 := keepc hSw c2; have zc3 := keepc hSw c3; clear hSw; go_simp <;> with_reducible rfl
            (try simp only [Act.put, List.setIfInBounds_toArray, List.set_cons_zero, List.set_cons_succ])
            refine wpAnyH_ready (rs := [19]) (by kernel_rfl) (by simp) ?_
            refine AllReadyH.cons rfl (fun K hK => ?_) AllReadyH.nil
            go_simp
            refine ((GIN.out u HU _ (HS.out.below (chn hb hHeld))).out).mono ?_; rintro e W ⟨rfl, hq⟩
            go_simp
            refine hK.out _ _ (chn hHeld hq) (fun h => ?_)
            clear hK K; replace hHeld := h; clear h hq
            (try simp only [Act.put, List.setIfInBounds_toArray, List.set_cons_zero, List.set_cons_succ])
            cases u with
            | false =>
              obtain rfl : r = false := HNO.out (fun h => by have h := h.2.2.1; rw [upM_tk] at h; exact absurd (HU.out.symm.trans h) (by simp))
              refine tk (i := 20) (d := (some 65)) (v := ?_) rfl rfl (by kernel_rfl) (by kernel_rfl) (by kernel_rfl) (fun _ _ _ h => h) (Or.inl ⟨by rfl, ?_⟩) hHeld ?_
              rotate_left
              · intro w hSw; have zc0 := keepc hSw c0; have zc1 := keepc hSw c1; have zc2 := keepc hSw c2; have zc3 := keepc hSw c3; clear hSw; go_simp <;> with_reducible rfl
              (try simp only [Act.put, List.setIfInBounds_toArray, List.set_cons_zero, List.set_cons_succ])
              refine tk (i := 21) (d := (some 66)) (v := ?_) rfl rfl (by kernel_rfl) (by kernel_rfl) (by kernel_rfl) (fun _ _ _ h => h) (Or.inl ⟨by rfl, ?_⟩) hHeld ?_
              rotate_left
              · intro w hSw; have zc0 := keepc hSw c0; have zc1 := keepc hSw c1; have zc2 := keepc hSw c2; have zc3 := keepc hSw c3; clear hSw; go_simp <;> with_reducible rfl
              (try simp only [Act.put, List.setIfInBounds_toArray, List.set_cons_zero, List.set_cons_succ])
              refine wpAnyH_done (by kernel_rfl) ?_ _
              replace hb := chn hb hHeld; clear hHeld
              go_wp2
              go_ret
              exact ⟨rfl, by repeat (first | exact hb | refine Below.alloc ?_ (by have := hb.size; simp; try omega) _)⟩
            | true =>
              refine tk (i := 20) (d := (some 65)) (v := ?_) rfl rfl (by kernel_rfl) (by kernel_rfl) (by kernel_rfl) (fun _ _ _ h => h) (Or.inl ⟨by rfl, ?_⟩) hHeld ?_
              rotate_left
              · intro w hSw; have zc0 := keepc hSw c0; have zc1 := keepc hSw c1; have zc2 := keepc hSw c2; have zc3 := keepc hSw c3; clear hSw; go_simp <;> with_reducible rfl
              (try simp only [Act.put, List.setIfInBounds_toArray, List.set_cons_zero, List.set_cons_succ])
              refine tk (i := 21) (d := (some 66)) (v := ?_) rfl rfl (by kernel_rfl) (by kernel_rfl) (by kernel_rfl) (fun _ _ _ h => h) (Or.inl ⟨by rfl, ?_⟩) hHeld ?_
              rotate_left
              · intro w hSw; have zc0 := keepc hSw c0; have zc1 := keepc hSw c1; have zc2 := keepc hSw c2; have zc3 := keepc hSw c3; clear hSw; go_simp <;> with_reducible rfl
              (try simp only [Act.put, List.setIfInBounds_toArray, List.set_cons_zero, List.set_cons_succ])
              refine wpAnyH_done (by kernel_rfl) ?_ _
              replace hb := chn hb hHeld; replace c0 := keepc hHeld c0; replace c1 := keepc hHeld c1; replace c2 := keepc hHeld c2; clear hHeld
              have HUQ := Lib.hid ((upM_tk xs (k+1) ep.data.toList).trans HU.out)
              by_cases k3 : 2 < ek
              · have d3 : decide (2 < ek) = true := by simp; omega
                go_wp2_with fail
                refine wp_region_held_drew (S := fun w' => Below _ _ w') (by kernel_rfl) (below_drew _) (fun hHeld => ?_)
                refine tk (i := 0) (d := (some 67)) (v := ?_) rfl rfl (by kernel_rfl) (by kernel_rfl) (by kernel_rfl) (fun _ _ _ h => h) (Or.inl ⟨by rfl, ?_⟩) hHeld ?_
                rotate_left
                · intro w hSw; have zc0 := keepc hSw c0; have zc1 := keepc hSw c1; have zc2 := keepc hSw c2; clear hSw; go_simp <;> with_reducible rfl
                (try simp only [Act.put, List.setIfInBounds_toArray, List.set_cons_zero, List.set_cons_succ])
                refine tk (i := 1) (d := (some 68)) (v := ?_) rfl rfl (by kernel_rfl) (by kernel_rfl) (by kernel_rfl) (fun _ _ _ h => h) (Or.inl ⟨by rfl, ?_⟩) hHeld ?_
                rotate_left
                · intro w hSw; have zc0 := keepc hSw c0; have zc1 := keepc hSw c1; have zc2 := keepc hSw c2; clear hSw; go_simp <;> with_reducible rfl
                (try simp only [Act.put, List.setIfInBounds_toArray, List.set_cons_zero, List.set_cons_succ])
                refine tk (i := 2) (d := (some 69)) (v := ?_) rfl rfl (by kernel_rfl) (by kernel_rfl) (by kernel_rfl) (fun _ _ _ h => h) (Or.inl ⟨by rfl, ?_⟩) hHeld ?_
                rotate_left
                · intro w hSw; have zc0 := keepc hSw c0; have zc1 := keepc hSw c1; have zc2 := keepc hSw c2; clear hSw; go_simp <;> with_reducible rfl
                (try simp only [Act.put, List.setIfInBounds_toArray, List.set_cons_zero, List.set_cons_succ])
                refine tk (i := 3) (d := (some 70)) (v := ?_) rfl rfl (by kernel_rfl) (by kernel_rfl) (by kernel_rfl) (fun _ _ _ h => h) (Or.inl ⟨by rfl, ?_⟩) hHeld ?_
                rotate_left
                · intro w hSw; have zc0 := keepc hSw c0; have zc1 := keepc hSw c1; have zc2 := keepc hSw c2; clear hSw; go_simp <;> with_reducible rfl
                (try simp only [Act.put, List.setIfInBounds_toArray, List.set_cons_zero, List.set_cons_succ])
                refine tk (i := 4) (d := (some 71)) (v := ?_) rfl rfl (by kernel_rfl) (by kernel_rfl) (by kernel_rfl) (fun _ _ _ h => h) (Or.inl ⟨by rfl, ?_⟩) hHeld ?_
                rotate_left
                · intro w hSw; have zc0 := keepc hSw c0; have zc1 := keepc hSw c1; have zc2 := keepc hSw c2; clear hSw; go_simp <;> with_reducible rfl
                (try simp only [Act.put, List.setIfInBounds_toArray, List.set_cons_zero, List.set_cons_succ])
                refine tk (i := 5) (d := (some 72)) (v := ?_) rfl rfl (by kernel_rfl) (by kernel_rfl) (by kernel_rfl) (fun _ _ _ h => h) (Or.inl ⟨by rfl, ?_⟩) hHeld ?_
                rotate_left
                · intro w hSw; have zc0 := keepc hSw c0; have zc1 := keepc hSw c1; have zc2 := keepc hSw c2; clear hSw; go_simp <;> with_reducible rfl
                (try simp only [Act.put, List.setIfInBounds_toArray, List.set_cons_zero, List.set_cons_succ])
                refine tk (i := 6) (d := (some 73)) (v := ?_) rfl rfl (by kernel_rfl) (by kernel_rfl) (by kernel_rfl) (fun _ _ _ h => h) (Or.inl ⟨by rfl, ?_⟩) hHeld ?_
                rotate_left
                · intro w hSw; have zc0 := keepc hSw c0; have zc1 := keepc hSw c1; have zc2 := keepc hSw c2; clear hSw; go_simp <;> with_reducible rfl
                (try simp only [Act.put, List.setIfInBounds_toArray, List.set_cons_zero, List.set_cons_succ])
                refine tk (i := 7) (d := (some 74)) (v := ?_) rfl rfl (by kernel_rfl) (by kernel_rfl) (by kernel_rfl) (fun _ _ _ h => h) (Or.inl ⟨by rfl, ?_⟩) hHeld ?_
                rotate_left
                · intro w hSw; have zc0 := keepc hSw c0; have zc1 := keepc hSw c1; have zc2 := keepc hSw c2; clear hSw; go_simp <;> with_reducible rfl
                (try simp only [Act.put, List.setIfInBounds_toArray, List.set_cons_zero, List.set_cons_succ])
                refine tk (i := 8) (d := (some 75)) (v := ?_) rfl rfl (by kernel_rfl) (by kernel_rfl) (by kernel_rfl) (fun _ _ _ h => h) (Or.inl ⟨by rfl, ?_⟩) hHeld ?_
                rotate_left
                · intro w hSw; have zc0 := keepc hSw c0; have zc1 := keepc hSw c1; have zc2 := keepc hSw c2; clear hSw; go_simp <;> with_reducible rfl
                (try simp only [Act.put, List.setIfInBounds_toArray, List.set_cons_zero, List.set_cons_succ])
                refine wpAnyH_ready (rs := [9]) (by kernel_rfl) (by simp) ?_
                refine AllReadyH.cons rfl (fun K hK => ?_) AllReadyH.nil
                go_simp
                refine ((GBR.out v HV _ (HS.out.below (chn hb hHeld))).out).mono ?_; rintro e W ⟨rfl, hq⟩
                go_simp
                refine hK.out _ _ (chn hHeld hq) (fun h => ?_)
                clear hK K; replace hHeld := h; clear h hq
                (try simp only [Act.put, List.setIfInBounds_toArray, List.set_cons_zero, List.set_cons_succ])
                cases v with
                | true =>
                  obtain rfl : r = false := HNO.out (fun h => by have h := h.2.2.2 k3; exact absurd ((HVB.out).symm.trans h) (by simp))
                  refine tk (i := 10) (d := (some 77)) (v := ?_) rfl rfl (by kernel_rfl) (by kernel_rfl) (by kernel_rfl) (fun _ _ _ h => h) (Or.inl ⟨by rfl, ?_⟩) hHeld ?_
                  rotate_left
                  · intro w hSw; have zc0 := keepc hSw c0; have zc1 := keepc hSw c1; have zc2 := keepc hSw c2; clear hSw; go_simp <;> with_reducible rfl
                  (try simp only [Act.put, List.setIfInBounds_toArray, List.set_cons_zero, List.set_cons_succ])
                  refine wpAnyH_done (by kernel_rfl) ?_ _
                  replace hb := chn hb hHeld; clear hHeld
                  go_wp2
                  go_ret
                  exact ⟨rfl, by repeat (first | exact hb | refine Below.alloc ?_ (by have := hb.size; simp; try omega) _)⟩
                | false =>
                  refine tk (i := 10) (d := (some 77)) (v := ?_) rfl rfl (by kernel_rfl) (by kernel_rfl) (by kernel_rfl) (fun _ _ _ h => h) (Or.inl ⟨by rfl, ?_⟩) hHeld ?_
                  rotate_left
                  · intro w hSw; have zc0 := keepc hSw c0; have zc1 := keepc hSw c1; have zc2 := keepc hSw c2; clear hSw; go_simp <;> with_reducible rfl
                  (try simp only [Act.put, List.setIfInBounds_toArray, List.set_cons_zero, List.set_cons_succ])
                  refine wpAnyH_done (by kernel_rfl) ?_ _
                  replace hb := chn hb hHeld; clear hHeld
                  go_wp2
                  go_roundw
                  case rel => exact ⟨(k+1+1), by omega, by go_num, ASK.out HUQ.out (fun _ => HVB.out), by repeat (first | exact hb | refine Below.alloc ?_ (by have := hb.size; simp; try omega) _)⟩
                  case measure => simp [intOf]; omega
              · have d3 : decide (2 < ek) = false := by simp; omega
                go_wp2_with fail
                refine wp_region_held_drew (S := fun w' => Below _ _ w') (by kernel_rfl) (below_drew _) (fun hHeld => ?_)
                refine tk (i := 0) (d := (some 67)) (v := ?_) rfl rfl (by kernel_rfl) (by kernel_rfl) (by kernel_rfl) (fun _ _ _ h => h) (Or.inl ⟨by rfl, ?_⟩) hHeld ?_
                rotate_left
                · intro w hSw; have zc0 := keepc hSw c0; have zc1 := keepc hSw c1; have zc2 := keepc hSw c2; clear hSw; go_simp <;> with_reducible rfl
                (try simp only [Act.put, List.setIfInBounds_toArray, List.set_cons_zero, List.set_cons_succ])
                refine tk (i := 1) (d := (some 68)) (v := ?_) rfl rfl (by kernel_rfl) (by kernel_rfl) (by kernel_rfl) (fun _ _ _ h => h) (Or.inl ⟨by rfl, ?_⟩) hHeld ?_
                rotate_left
                · intro w hSw; have zc0 := keepc hSw c0; have zc1 := keepc hSw c1; have zc2 := keepc hSw c2; clear hSw; go_simp <;> with_reducible rfl
                (try simp only [Act.put, List.setIfInBounds_toArray, List.set_cons_zero, List.set_cons_succ])
                refine tk (i := 2) (d := (some 69)) (v := ?_) rfl rfl (by kernel_rfl) (by kernel_rfl) (by kernel_rfl) (fun _ _ _ h => h) (Or.inl ⟨by rfl, ?_⟩) hHeld ?_
                rotate_left
                · intro w hSw; have zc0 := keepc hSw c0; have zc1 := keepc hSw c1; have zc2 := keepc hSw c2; clear hSw; go_simp <;> with_reducible rfl
                (try simp only [Act.put, List.setIfInBounds_toArray, List.set_cons_zero, List.set_cons_succ])
                refine tk (i := 3) (d := (some 70)) (v := ?_) rfl rfl (by kernel_rfl) (by kernel_rfl) (by kernel_rfl) (fun _ _ _ h => h) (Or.inl ⟨by rfl, ?_⟩) hHeld ?_
                rotate_left
                · intro w hSw; have zc0 := keepc hSw c0; have zc1 := keepc hSw c1; have zc2 := keepc hSw c2; clear hSw; go_simp <;> with_reducible rfl
                (try simp only [Act.put, List.setIfInBounds_toArray, List.set_cons_zero, List.set_cons_succ])
                refine tk (i := 4) (d := (some 71)) (v := undef) rfl rfl (by kernel_rfl) (by kernel_rfl) (by kernel_rfl) (fun _ _ _ h => h) (Or.inr ⟨by kernel_rfl, rfl⟩) hHeld ?_
                (try simp only [Act.put, List.setIfInBounds_toArray, List.set_cons_zero, List.set_cons_succ])
                refine tk (i := 5) (d := (some 72)) (v := undef) rfl rfl (by kernel_rfl) (by kernel_rfl) (by kernel_rfl) (fun _ _ _ h => h) (Or.inr ⟨by kernel_rfl, rfl⟩) hHeld ?_
                (try simp only [Act.put, List.setIfInBounds_toArray, List.set_cons_zero, List.set_cons_succ])
                refine tk (i := 6) (d := (some 73)) (v := undef) rfl rfl (by kernel_rfl) (by kernel_rfl) (by kernel_rfl) (fun _ _ _ h => h) (Or.inr ⟨by kernel_rfl, rfl⟩) hHeld ?_
                (try simp only [Act.put, List.setIfInBounds_toArray, List.set_cons_zero, List.set_cons_succ])
                refine tk (i := 7) (d := (some 74)) (v := undef) rfl rfl (by kernel_rfl) (by kernel_rfl) (by kernel_rfl) (fun _ _ _ h => h) (Or.inr ⟨by kernel_rfl, rfl⟩) hHeld ?_
                (try simp only [Act.put, List.setIfInBounds_toArray, List.set_cons_zero, List.set_cons_succ])
                refine tk (i := 8) (d := (some 75)) (v := undef) rfl rfl (by kernel_rfl) (by kernel_rfl) (by kernel_rfl) (fun _ _ _ h => h) (Or.inr ⟨by kernel_rfl, rfl⟩) hHeld ?_
                (try simp only [Act.put, List.setIfInBounds_toArray, List.set_cons_zero, List.set_cons_succ])
                refine tk (i := 9) (d := (some 76)) (v := undef) rfl rfl (by kernel_rfl) (by kernel_rfl) (by kernel_rfl) (fun _ _ _ h => h) (Or.inr ⟨by kernel_rfl, rfl⟩) hHeld ?_
                (try simp only [Act.put, List.setIfInBounds_toArray, List.set_cons_zero, List.set_cons_succ])
                refine tk (i := 10) (d := (some 77)) (v := ?_) rfl rfl (by kernel_rfl) (by kernel_rfl) (by kernel_rfl) (fun _ _ _ h => h) (Or.inl ⟨by rfl, ?_⟩) hHeld ?_
                rotate_left
                · intro w hSw; have zc0 := keepc hSw c0; have zc1 := keepc hSw c1; have zc2 := keepc hSw c2; clear hSw; go_simp <;> with_reducible rfl
                (try simp only [Act.put, List.setIfInBounds_toArray, List.set_cons_zero, List.set_cons_succ])
                refine wpAnyH_done (by kernel_rfl) ?_ _
                replace hb := chn hb hHeld; clear hHeld
                go_wp2
                go_roundw
                case rel => exact ⟨(k+1+1), by omega, by go_num, ASK.out HUQ.out (fun h => (by exfalso; omega)), by repeat (first | exact hb | refine Below.alloc ?_ (by have := hb.size; simp; try omega) _)⟩
                case measure => simp [intOf]; omega
        · obtain rfl : r = false := HNO.out (fun h => by have := mless_at xs k f ⟨ep, ek, ex⟩ HFF.out h.2.1; rw [hle] at this; cases this)
          rcases hk1 with n1 | ⟨n1, q1⟩
          all_goals
            go_wp2_with fail
            refine (sPathOk_c ep true HP1 _ HZ1.out).mono ?_; rintro e W ⟨rfl, hq⟩; replace hb := chn hb hq; replace c0 := keepc hq c0; replace c1 := keepc hq c1; replace c2 := keepc hq c2; replace c3 := keepc hq c3; clear hq
            go_wp2_with fail
            refine (l2Data_c ex true HP2 _ HZ2.out).mono ?_; rintro e' W' ⟨rfl, rfl⟩
            go_wp2_with fail
            refine wp_region_held_drew (S := fun w' => Below _ _ w') (by kernel_rfl) (below_drew _) (fun hHeld => ?_)
            refine tk (i := 0) (d := (some 45)) (v := ?_) rfl rfl (by kernel_rfl) (by kernel_rfl) (by kernel_rfl) (fun _ _ _ h => h) (Or.inl ⟨by rfl, ?_⟩) hHeld ?_
            rotate_left
            · intro w hSw; have zc0 := keepc hSw c0; have zc1 := keepc hSw c1; have zc2 := keepc hSw c2; have zc3 := keepc hSw c3; clear hSw; go_simp <;> with_reducible rfl
            (try simp only [Act.put, List.setIfInBounds_toArray, List.set_cons_zero, List.set_cons_succ])
            refine tk (i := 1) (d := (some 46)) (v := ?_) rfl rfl (by kernel_rfl) (by kernel_rfl) (by kernel_rfl) (fun _ _ _ h => h) (Or.inl ⟨by rfl, ?_⟩) hHeld ?_
            rotate_left
            · intro w hSw; have zc0 := keepc hSw c0; have zc1 := keepc hSw c1; have zc2 := keepc hSw c2; have zc3 := keepc hSw c3; clear hSw; go_simp <;> with_reducible rfl
            (try simp only [Act.put, List.setIfInBounds_toArray, List.set_cons_zero, List.set_cons_succ])
            refine tk (i := 2) (d := (some 47)) (v := ?_) rfl rfl (by kernel_rfl) (by kernel_rfl) (by kernel_rfl) (fun _ _ _ h => h) (Or.inl ⟨by rfl, ?_⟩) hHeld ?_
            rotate_left
            · intro w hSw; have zc0 := keepc hSw c0; have zc1 := keepc hSw c1; have zc2 := keepc hSw c2; have zc3 := keepc hSw c3; clear hSw; go_simp <;> with_reducible rfl
            (try simp only [Act.put, List.setIfInBounds_toArray, List.set_cons_zero, List.set_cons_succ])
            refine tk (i := 3) (d := (some 48)) (v := ?_) rfl rfl (by kernel_rfl) (by kernel_rfl) (by kernel_rfl) (fun _ _ _ h => h) (Or.inl ⟨by rfl, ?_⟩) hHeld ?_
            rotate_left
            · intro w hSw; have zc0 := keepc hSw c0; have zc1 := keepc hSw c1; have zc2 := keepc hSw c2; have zc3 := keepc hSw c3; clear hSw; go_simp <;> with_reducible rfl
            (try simp only [Act.put, List.setIfInBounds_toArray, List.set_cons_zero, List.set_cons_succ])
            refine tk (i := 4) (d := (some 49)) (v := ?_) rfl rfl (by kernel_rfl) (by kernel_rfl) (by kernel_rfl) (fun _ _ _ h => h) (Or.inl ⟨by rfl, ?_⟩) hHeld ?_
            rotate_left
            · intro w hSw; have zc0 := keepc hSw c0; have zc1 := keepc hSw c1; have zc2 := keepc hSw c2; have zc3 := keepc hSw c3; clear hSw; go_simp <;> with_reducible rfl
            (try simp only [Act.put, List.setIfInBounds_toArray, List.set_cons_zero, List.set_cons_succ])
            refine tk (i := 5) (d := (some 50)) (v := ?_) rfl rfl (by kernel_rfl) (by kernel_rfl) (by kernel_rfl) (fun _ _ _ h => h) (Or.inl ⟨by rfl, ?_⟩) hHeld ?_
            rotate_left
            · intro w hSw; have zc0 := keepc hSw c0; have zc1 := keepc hSw c1; have zc2 := keepc hSw c2; have zc3 := keepc hSw c3; clear hSw; go_simp <;> with_reducible rfl
            (try simp only [Act.put, List.setIfInBounds_toArray, List.set_cons_zero, List.set_cons_succ])
            refine tk (i := 6) (d := (some 51)) (v := ?_) rfl rfl (by kernel_rfl) (by kernel_rfl) (by kernel_rfl) (fun _ _ _ h => h) (Or.inl ⟨by rfl, ?_⟩) hHeld ?_
            rotate_left
            · intro w hSw; have zc0 := keepc hSw c0; have zc1 := keepc hSw c1; have zc2 := keepc hSw c2; have zc3 := keepc hSw c3; clear hSw; go_simp <;> with_reducible rfl
            (try simp only [Act.put, List.setIfInBounds_toArray, List.set_cons_zero, List.set_cons_succ])
            refine tk (i := 7) (d := (some 52)) (v := ?_) rfl rfl (by kernel_rfl) (by kernel_rfl) (by kernel_rfl) (fun _ _ _ h => h) (Or.inl ⟨by rfl, ?_⟩) hHeld ?_
            rotate_left
            · intro w hSw; have zc0 := keepc hSw c0; have zc1 := keepc hSw c1; have zc2 := keepc hSw c2; have zc3 := keepc hSw c3; clear hSw; go_simp <;> with_reducible rfl
            (try simp only [Act.put, List.setIfInBounds_toArray, List.set_cons_zero, List.set_cons_succ])
            refine tk (i := 8) (d := (some 53)) (v := ?_) rfl rfl (by kernel_rfl) (by kernel_rfl) (by kernel_rfl) (fun _ _ _ h => h) (Or.inl ⟨by rfl, ?_⟩) hHeld ?_
            rotate_left
            · intro w hSw; have zc0 := keepc hSw c0; have zc1 := keepc hSw c1; have zc2 := keepc hSw c2; have zc3 := keepc hSw c3; clear hSw; go_simp <;> with_reducible rfl
            (try simp only [Act.put, List.setIfInBounds_toArray, List.set_cons_zero, List.set_cons_succ])
            refine tk (i := 9) (d := (some 54)) (v := ?_) rfl rfl (by kernel_rfl) (by kernel_rfl) (by kernel_rfl) (fun _ _ _ h => h) (Or.inl ⟨by rfl, ?_⟩) hHeld ?_
            rotate_left
            · intro w hSw; have zc0 := keepc hSw c0; have zc1 := keepc hSw c1; have zc2 := keepc hSw c2; have zc3 := keepc hSw c3; clear hSw; go_simp <;> with_reducible rfl
            (try simp only [Act.put, List.setIfInBounds_toArray, List.set_cons_zero, List.set_cons_succ])
            refine tk (i := 10) (d := (some 55)) (v := ?_) rfl rfl (by kernel_rfl) (by kernel_rfl) (by kernel_rfl) (fun _ _ _ h => h) (Or.inl ⟨by rfl, ?_⟩) hHeld ?_
            rotate_left
            · intro w hSw; have zc0 := keepc hSw c0; have zc1 := keepc hSw c1; have zc2 := keepc hSw c2; have zc3 := keepc hSw c3; clear hSw; go_simp <;> with_reducible rfl
            (try simp only [Act.put, List.setIfInBounds_toArray, List.set_cons_zero, List.set_cons_succ])
            refine tk (i := 11) (d := (some 56)) (v := ?_) rfl rfl (by kernel_rfl) (by kernel_rfl) (by kernel_rfl) (fun _ _ _ h => h) (Or.inl ⟨by rfl, ?_⟩) hHeld ?_
            rotate_left
            · intro w hSw; have zc0 := keepc hSw c0; have zc1 := keepc hSw c1; have zc2 := keepc hSw c2; have zc3 := keepc hSw c3; clear hSw; go_simp <;> with_reducible rfl
            (try simp only [Act.put, List.setIfInBounds_toArray, List.set_cons_zero, List.set_cons_succ])
            refine tk (i := 12) (d := (some 57)) (v := ?_) rfl rfl (by kernel_rfl) (by kernel_rfl) (by kernel_rfl) (fun _ _ _ h => h) (Or.inl ⟨by rfl, ?_⟩) hHeld ?_
            rotate_left
            · intro w hSw; have zc0 := keepc hSw c0; have zc1 := keepc hSw c1; have zc2 := keepc hSw c2; have zc3 := keepc hSw c3; clear hSw; go_simp <;> with_reducible rfl
            (try simp only [Act.put, List.setIfInBounds_toArray, List.set_cons_zero, List.set_cons_succ])
            refine tk (i := 13) (d := (some 58)) (v := ?_) rfl rfl (by kernel_rfl) (by kernel_rfl) (by kernel_rfl) (fun _ _ _ h => h) (Or.inl ⟨by rfl, ?_⟩) hHeld ?_
            rotate_left
            · intro w hSw; have zc0 := keepc hSw c0; have zc1 := keepc hSw c1; have zc2 := keepc hSw c2; have zc3 := keepc hSw c3; clear hSw; go_simp <;> with_reducible rfl
            (try simp only [Act.put, List.setIfInBounds_toArray, List.set_cons_zero, List.set_cons_succ])
            refine tk (i := 14) (d := (some 59)) (v := undef) rfl rfl (by kernel_rfl) (by kernel_rfl) (by kernel_rfl) (fun _ _ _ h => h) (Or.inr ⟨by kernel_rfl, rfl⟩) hHeld ?_
            (try simp only [Act.put, List.setIfInBounds_toArray, List.set_cons_zero, List.set_cons_succ])
            refine tk (i := 15) (d := (some 60)) (v := undef) rfl rfl (by kernel_rfl) (by kernel_rfl) (by kernel_rfl) (fun _ _ _ h => h) (Or.inr ⟨by kernel_rfl, rfl⟩) hHeld ?_
            (try simp only [Act.put, List.setIfInBounds_toArray, List.set_cons_zero, List.set_cons_succ])
            refine tk (i := 16) (d := (some 61)) (v := undef) rfl rfl (by kernel_rfl) (by kernel_rfl) (by kernel_rfl) (fun _ _ _ h => h) (Or.inr ⟨by kernel_rfl, rfl⟩) hHeld ?_
            (try simp only [Act.put, List.setIfInBounds_toArray, List.set_cons_zero, List.set_cons_succ])
            refine tk (i := 17) (d := (some 62)) (v := undef) rfl rfl (by kernel_rfl) (by kernel_rfl) (by kernel_rfl) (fun _ _ _ h => h) (Or.inr ⟨by kernel_rfl, rfl⟩) hHeld ?_
            (try simp only [Act.put, List.setIfInBounds_toArray, List.set_cons_zero, List.set_cons_succ])
            refine tk (i := 18) (d := (some 63)) (v := undef) rfl rfl (by kernel_rfl) (by kernel_rfl) (by kernel_rfl) (fun _ _ _ h => h) (Or.inr ⟨by kernel_rfl, rfl⟩) hHeld ?_
            (try simp only [Act.put, List.setIfInBounds_toArray, List.set_cons_zero, List.set_cons_succ])
            refine tk (i := 19) (d := (some 64)) (v := undef) rfl rfl (by kernel_rfl) (by kernel_rfl) (by kernel_rfl) (fun _ _ _ h => h) (Or.inr ⟨by kernel_rfl, rfl⟩) hHeld ?_
            (try simp only [Act.put, List.setIfInBounds_toArray, List.set_cons_zero, List.set_cons_succ])
            refine tk (i := 20) (d := (some 65)) (v := undef) rfl rfl (by kernel_rfl) (by kernel_rfl) (by kernel_rfl) (fun _ _ _ h => h) (Or.inr ⟨by kernel_rfl, rfl⟩) hHeld ?_
            (try simp only [Act.put, List.setIfInBounds_toArray, List.set_cons_zero, List.set_cons_succ])
            refine tk (i := 21) (d := (some 66)) (v := ?_) rfl rfl (by kernel_rfl) (by kernel_rfl) (by kernel_rfl) (fun _ _ _ h => h) (Or.inl ⟨by rfl, ?_⟩) hHeld ?_
            rotate_left
            · intro w hSw; have zc0 := keepc hSw c0; have zc1 := keepc hSw c1; have zc2 := keepc hSw c2; have zc3 := keepc hSw c3; clear hSw; go_simp <;> with_reducible rfl
            (try simp only [Act.put, List.setIfInBounds_toArray, List.set_cons_zero, List.set_cons_succ])
            refine wpAnyH_done (by kernel_rfl) ?_ _
            replace hb := chn hb hHeld; clear hHeld
            go_wp2
            go_ret
            exact ⟨rfl, by repeat (first | exact hb | refine Below.alloc ?_ (by have := hb.size; simp; try omega) _)⟩
    · have HFIN : Hid (n ≤ 32 → r = true) := fun h => hR.out.2 ⟨h, fun j e he => HA.out j e (by have := (List.getElem?_eq_some_iff.1 he).1; rw [HN.out] at this; omega) he⟩
      by_cases h32 : n ≤ 32
      · obtain rfl : r = true := HFIN.out h32
        go_wp2
        go_ret
        exact ⟨ret_bool (by simp; try omega), hb⟩
      · obtain rfl : r = false := by
          cases r
          · rfl
          · have := (hR.out.1 rfl).1; omega
        go_wp2
        go_ret
        exact ⟨ret_bool (by simp; try omega), hb⟩
end Go.Proofs.YtkhbkhibjflgmaaDoor
