/- The walks of the reference's LayerOk, and of LayerHides of both. The walk of the reference's LayerJoin. The walk of the exact law of LayerJoin. Conditions: each theorem's own. -/
import Derived.Test.YtnmjidjhloodbaaDoorB5
import Derived.Test.YtnmjidjhloodbaaDoorB4
import Derived.Test.YtnmjidjhloodbaaDoorB2
namespace Go.Proofs.YtnmjidjhloodbaaDoor
open Go.RowKit
theorem upM_tk (xs : List Mk) (k : Nat) (q : Bs) : upM ((xs.map Mk.pl).take k) q = upM ((xs.take k).map Mk.pl) q := by rw [List.map_take]
/-- The marks so far are at paths. -/
theorem path_tk {xs : List Mk} {k : Nat} (h : ∀ (j : Nat) (e : Mk), j < k → xs[j]? = some e → MAskR xs j e) : ∀ m ∈ (xs.take k).map Mk.pl, pathOkL m.p = true := by
  intro m hm
  obtain ⟨e, he, rfl⟩ := List.mem_map.1 hm
  obtain ⟨j, hj⟩ := List.getElem?_of_mem he
  rw [List.getElem?_take] at hj
  split at hj
  · next hjk => exact markOk_path (h j e hjk hj).1
  · cases hj
set_option maxRecDepth 100000 in
set_option maxHeartbeats 8000000 in
theorem sLayerOk_c (a : Option Addr) (c : Nat) (xs : List Mk) (r : Bool) (hr : Hid (r = true ↔ LOk (xs.map Mk.pl))) (w : World) (hs : SlF Mk.cells w a xs) (hx : xs.length ≤ maxLen) (hc : xs.length ≤ c) (hz : ∀ e ∈ xs, e.p.size ≤ 2000000 ∧ e.x.size ≤ 2000000) :
    Calls Tryd.prog 19 #[.slice a xs.length c] w fun q w' => q = .returned (.bool r) ∧ Below w.heap.size w w' := by
  have hR : Hid (r = true ↔ xs.length ≤ 32 ∧ ∀ (k : Nat) (e : Mk), xs[k]? = some e → MAskR xs k e) := by rw [Hid, hr.out, lok_R]
  have HIN0 := fun (k : Nat) (hk : k ≤ xs.length) (q : ByteArray) (hq : q.size ≤ maxLen) (u : Bool) (hu : Hid (upM ((xs.take k).map Mk.pl) q.data.toList = u)) (W : World) (h : SlF Mk.cells W a xs) => Lib.hid ((by
      have h1 := l3In_c a c (xs.take k) q u hu W (h.take k) (by rw [List.length_take]; omega) hq
      rw [List.length_take, Nat.min_eq_left hk] at h1
      exact h1) : Calls Tryd.prog 41 #[.slice a k c, .string q] W fun e w' => e = .returned (.bool u) ∧ Below W.heap.size W w')
  have HBR0 := fun (k : Nat) (hk : k ≤ xs.length) (q : ByteArray) (hq : q.size ≤ 2000000) (u : Bool) (hu : Hid (((xs.take k).map Mk.pl).any (bareQ q.data.toList) = u)) (W : World) (h : SlF Mk.cells W a xs) => Lib.hid ((by
      have h1 := l3Bare_c a c (xs.take k) q u hu W (h.take k) (by rw [List.length_take]; omega) hq (fun e he => hz e (List.mem_of_mem_take he))
      rw [List.length_take, Nat.min_eq_left hk] at h1
      exact h1) : Calls Tryd.prog 42 #[.slice a k c, .string q] W fun e w' => e = .returned (.bool u) ∧ Below W.heap.size W w')
  have HZ := Lib.hid hz
  have HS := Lib.hid hs
  obtain ⟨n, hn⟩ : ∃ n, xs.length = n := ⟨_, rfl⟩
  have HN := Lib.hid hn
  rw [hn] at hR hx hc HIN0 HBR0 ⊢
  unfold maxLen at hx
  have GIN0 := Lib.hid HIN0
  have GBR0 := Lib.hid HBR0
  clear hn hz hs hr HIN0 HBR0
  have hno : Hid (∀ (k : Nat) (e : Mk), xs[k]? = some e → ¬ MAskR xs k e → r = false) := fun k e he hne => by
    cases r
    · rfl
    · exact absurd ((hR.out.1 rfl).2 k e he) hne
  go_enter Tryd.func19, Tryd.ntmps19
  go_wp2
  go_loopw [3, 4] (fun i _ wr => ∃ k : Nat, k ≤ n ∧ i = .int .i64 k ∧ (∀ (j : Nat) (e : Mk), j < k → xs[j]? = some e → MAskR xs j e) ∧ Below w.heap.size w wr) (fun i _ _ => n - (intOf i).toNat)
  case atStart => exact ⟨0, Nat.zero_le _, rfl, fun j _ h => absurd h (by omega), Below.refl _ _⟩
  case round =>
    obtain ⟨k, hk, rfl, hall, hb⟩ := hrel
    have HA := Lib.hid hall
    clear hall
    by_cases hlt : k < n
    · obtain ⟨e, hee⟩ : ∃ e, xs[k]? = some e := ⟨_, List.getElem?_eq_getElem (by rw [HN.out]; exact hlt)⟩
      have h2 := (HS.out.below hb)
      obtain ⟨b, off, rfl, _⟩ := h2.addr (by rw [HN.out]; omega)
      obtain ⟨d0, d1, d2⟩ := mk_at h2 k e hee
      have hzz := HZ.out e (List.mem_of_getElem? hee)
      have HNO := Lib.hid (fun h => hno.out k e hee h)
      have HEE := Lib.hid hee
      have h3 := h2
      clear h2 hee
      obtain ⟨ep, ek, ex⟩ := e
      have hz1 : ep.size ≤ maxLen := Nat.le_trans hzz.1 (by unfold maxLen; omega)
      have hz2 : ex.size ≤ maxLen := Nat.le_trans hzz.2 (by unfold maxLen; omega)
      have HZ1 := Lib.hid hz1
      have HZ2 := Lib.hid hz2
      have GIN := Lib.hid (fun u hu => GIN0.out k hk ep hz1 u hu)
      have GBR := Lib.hid (fun u hu => GBR0.out k hk ep hzz.1 u hu)
      have HRM : Hid (markOkL (Mk.pl ⟨ep, ek, ex⟩) = (decide (1 ≤ ek) && decide (ek ≤ 4) && pathOkL ep.data.toList && dataOkL ex.data.toList && (decide (ek = 1) || ex.data.toList == []))) := rfl
      clear hzz hz1 hz2
      have c0 := new_cell wr #[.string ep, .int .i64 ek, .string ex] 45 0 _ rfl
      have c1 := new_cell wr #[.string ep, .int .i64 ek, .string ex] 45 1 _ rfl
      have c2 := new_cell wr #[.string ep, .int .i64 ek, .string ex] 45 2 _ rfl
      replace hb := hb.alloc hb.size (.cells #[.string ep, .int .i64 ek, .string ex] 45)
      have HNM := Lib.hid (fun (h : markOkL (Mk.pl ⟨ep, ek, ex⟩) = false) => HNO.out (fun h' => by have := h'.1; rw [h] at this; cases this))
      by_cases klo : ek < 1
      · obtain rfl : r = false := HNM.out (by rw [HRM.out, decide_eq_false (p := 1 ≤ ek) (by omega)]; rfl)
        go_wp2
        go_ret
        exact ⟨rfl, by repeat (first | exact hb | refine Below.alloc ?_ (by have := hb.size; simp; try omega) _)⟩
      by_cases khi : 4 < ek
      · obtain rfl : r = false := HNM.out (by rw [HRM.out, decide_eq_false (p := ek ≤ 4) (by omega), Bool.and_false]; rfl)
        go_wp2
        go_ret
        exact ⟨rfl, by repeat (first | exact hb | refine Below.alloc ?_ (by have := hb.size; simp; try omega) _)⟩
      have h4 : decide (4 < ek) = false := by simp; omega
      have HRM2 : Hid (markOkL (Mk.pl ⟨ep, ek, ex⟩) = (pathOkL ep.data.toList && dataOkL ex.data.toList && (decide (ek = 1) || ex.data.toList == []))) := by rw [Hid, HRM.out, decide_eq_true (p := 1 ≤ ek) (by omega), decide_eq_true (p := ek ≤ 4) (by omega)]; rfl
      clear HRM
      obtain ⟨p1, hp1⟩ : ∃ x, pathOkL ep.data.toList = x := ⟨_, rfl⟩
      have HP1 := Lib.hid hp1
      clear hp1
      cases p1 with
      | false =>
        obtain rfl : r = false := HNM.out (by rw [HRM2.out, HP1.out]; rfl)
        go_wp2_with fail
        refine (sPathOk_c ep false HP1 _ HZ1.out).mono ?_; rintro e W ⟨rfl, hq⟩; replace hb := chn hb hq; replace c0 := keepc hq c0; replace c1 := keepc hq c1; replace c2 := keepc hq c2; clear hq
        go_wp2
        go_ret
        exact ⟨rfl, by repeat (first | exact hb | refine Below.alloc ?_ (by have := hb.size; simp; try omega) _)⟩
      | true =>
      obtain ⟨p2, hp2⟩ : ∃ x, dataOkL ex.data.toList = x := ⟨_, rfl⟩
      have HP2 := Lib.hid hp2
      clear hp2
      cases p2 with
      | false =>
        obtain rfl : r = false := HNM.out (by rw [HRM2.out, HP1.out, HP2.out]; rfl)
        go_wp2_with fail
        refine (sPathOk_c ep true HP1 _ HZ1.out).mono ?_; rintro e W ⟨rfl, hq⟩; replace hb := chn hb hq; replace c0 := keepc hq c0; replace c1 := keepc hq c1; replace c2 := keepc hq c2; clear hq
        go_wp2_with fail
        refine (l2Data_c ex false HP2 _ HZ2.out).mono ?_; rintro e' W' ⟨rfl, rfl⟩
        go_wp2
        go_ret
        exact ⟨rfl, by repeat (first | exact hb | refine Below.alloc ?_ (by have := hb.size; simp; try omega) _)⟩
      | true =>
      have HRM3 : Hid (markOkL (Mk.pl ⟨ep, ek, ex⟩) = (decide (ek = 1) || ex.data.toList == [])) := by rw [Hid, HRM2.out, HP1.out, HP2.out]; rfl
      clear HRM2
      by_cases hxx : ek ≠ 1 ∧ ex.data.toList ≠ []
      · obtain rfl : r = false := HNM.out (by rw [HRM3.out, beqE_no hxx.2, decide_eq_false hxx.1]; rfl)
        have n1 : (ek != 1) = true := by rw [bne_iff_ne]; exact hxx.1
        have q1 := isE_no hxx.2
        clear hxx
        go_wp2_with fail
        refine (sPathOk_c ep true HP1 _ HZ1.out).mono ?_; rintro e W ⟨rfl, hq⟩; replace hb := chn hb hq; replace c0 := keepc hq c0; replace c1 := keepc hq c1; replace c2 := keepc hq c2; clear hq
        go_wp2_with fail
        refine (l2Data_c ex true HP2 _ HZ2.out).mono ?_; rintro e' W' ⟨rfl, rfl⟩
        go_wp2
        go_ret
        exact ⟨rfl, by repeat (first | exact hb | refine Below.alloc ?_ (by have := hb.size; simp; try omega) _)⟩
      have HM1 : Hid (markOkL (Mk.pl ⟨ep, ek, ex⟩) = true) := by
        rw [Hid, HRM3.out, Bool.or_eq_true, decide_eq_true_eq, beq_iff_eq]
        by_cases h1 : ek = 1
        · exact .inl h1
        · exact .inr (Classical.byContradiction fun h => hxx ⟨h1, h⟩)
      have hk1 : (ek != 1) = false ∨ ((ek != 1) = true ∧ ex.toList.isEmpty = true) := by
        by_cases h1 : ek = 1
        · exact .inl (by simp [h1])
        · exact .inr ⟨by rw [bne_iff_ne]; exact h1, isE_yes (Classical.byContradiction fun h => hxx ⟨h1, h⟩)⟩
      obtain ⟨u, hu⟩ : ∃ u, upM ((xs.take k).map Mk.pl) ep.data.toList = u := ⟨_, rfl⟩
      obtain ⟨v, hv⟩ : ∃ v, ((xs.take k).map Mk.pl).any (bareQ ep.data.toList) = v := ⟨_, rfl⟩
      have HU := Lib.hid hu
      have HV := Lib.hid hv
      have HVB : Hid (bareL ((xs.map Mk.pl).take k) ep.data.toList = v) := by
        rw [Hid, ← List.map_take, ← bareQ_eq HP1.out (path_tk HA.out)]; exact hv
      clear hu hv hxx HRM3 HNM
      cases k with
      | zero =>
        rw [Nat.zero_mul, Nat.add_zero] at d0 d1 d2
        have ASK := Lib.hid (fun (h3 : upM ((xs.map Mk.pl).take 0) ep.data.toList = true) (h4 : 2 < ek → bareL ((xs.map Mk.pl).take 0) ep.data.toList = false) (j : Nat) (g : Mk) (hj : j < 0 + 1) (hg : xs[j]? = some g) => (by
          have ej : j = 0 := by omega
          subst ej
          rw [HEE.out] at hg
          injection hg with hg
          rw [← hg]
          exact ⟨HM1.out, fun _ h _ => absurd h (by omega), h3, h4⟩ : MAskR xs j g))
        clear h3
        have w4 : (0 : Int) ≤ (c : Int) := by omega
        rcases hk1 with n1 | ⟨n1, q1⟩
        all_goals
          go_wp2_with fail
          refine (sPathOk_c ep true HP1 _ HZ1.out).mono ?_; rintro e W ⟨rfl, hq⟩; replace hb := chn hb hq; replace c0 := keepc hq c0; replace c1 := keepc hq c1; replace c2 := keepc hq c2; clear hq
          go_wp2_with fail
          refine (l2Data_c ex true HP2 _ HZ2.out).mono ?_; rintro e' W' ⟨rfl, rfl⟩
          go_wp2_with fail
          refine wp_region_held_drew (S := fun w' => Below _ _ w') (by kernel_rfl) (below_drew _) (fun hHeld => ?_)
          refine tk (i := 0) (d := (some 45)) (v := ?_) rfl rfl (by kernel_rfl) (by kernel_rfl) (by kernel_rfl) (fun _ _ _ h => h) (Or.inl ⟨by rfl, ?_⟩) hHeld ?_
          rotate_left
          · intro w hSw; have zc0 := keepc hSw c0; have zc1 := keepc hSw c1; have zc2 := keepc hSw c2; clear hSw; go_simp <;> with_reducible rfl
          (try simp only [Act.put, List.setIfInBounds_toArray, List.set_cons_zero, List.set_cons_succ])
          refine tk (i := 1) (d := (some 46)) (v := ?_) rfl rfl (by kernel_rfl) (by kernel_rfl) (by kernel_rfl) (fun _ _ _ h => h) (Or.inl ⟨by rfl, ?_⟩) hHeld ?_
          rotate_left
          · intro w hSw; have zc0 := keepc hSw c0; have zc1 := keepc hSw c1; have zc2 := keepc hSw c2; clear hSw; go_simp <;> with_reducible rfl
          (try simp only [Act.put, List.setIfInBounds_toArray, List.set_cons_zero, List.set_cons_succ])
          refine tk (i := 2) (d := (some 47)) (v := ?_) rfl rfl (by kernel_rfl) (by kernel_rfl) (by kernel_rfl) (fun _ _ _ h => h) (Or.inl ⟨by rfl, ?_⟩) hHeld ?_
          rotate_left
          · intro w hSw; have zc0 := keepc hSw c0; have zc1 := keepc hSw c1; have zc2 := keepc hSw c2; clear hSw; go_simp <;> with_reducible rfl
          (try simp only [Act.put, List.setIfInBounds_toArray, List.set_cons_zero, List.set_cons_succ])
          refine tk (i := 3) (d := (some 48)) (v := undef) rfl rfl (by kernel_rfl) (by kernel_rfl) (by kernel_rfl) (fun _ _ _ h => h) (Or.inr ⟨by kernel_rfl, rfl⟩) hHeld ?_
          (try simp only [Act.put, List.setIfInBounds_toArray, List.set_cons_zero, List.set_cons_succ])
          refine tk (i := 4) (d := (some 49)) (v := undef) rfl rfl (by kernel_rfl) (by kernel_rfl) (by kernel_rfl) (fun _ _ _ h => h) (Or.inr ⟨by kernel_rfl, rfl⟩) hHeld ?_
          (try simp only [Act.put, List.setIfInBounds_toArray, List.set_cons_zero, List.set_cons_succ])
          refine tk (i := 5) (d := (some 50)) (v := undef) rfl rfl (by kernel_rfl) (by kernel_rfl) (by kernel_rfl) (fun _ _ _ h => h) (Or.inr ⟨by kernel_rfl, rfl⟩) hHeld ?_
          (try simp only [Act.put, List.setIfInBounds_toArray, List.set_cons_zero, List.set_cons_succ])
          refine tk (i := 6) (d := (some 51)) (v := undef) rfl rfl (by kernel_rfl) (by kernel_rfl) (by kernel_rfl) (fun _ _ _ h => h) (Or.inr ⟨by kernel_rfl, rfl⟩) hHeld ?_
          (try simp only [Act.put, List.setIfInBounds_toArray, List.set_cons_zero, List.set_cons_succ])
          refine tk (i := 7) (d := (some 52)) (v := undef) rfl rfl (by kernel_rfl) (by kernel_rfl) (by kernel_rfl) (fun _ _ _ h => h) (Or.inr ⟨by kernel_rfl, rfl⟩) hHeld ?_
          (try simp only [Act.put, List.setIfInBounds_toArray, List.set_cons_zero, List.set_cons_succ])
          refine tk (i := 8) (d := (some 53)) (v := undef) rfl rfl (by kernel_rfl) (by kernel_rfl) (by kernel_rfl) (fun _ _ _ h => h) (Or.inr ⟨by kernel_rfl, rfl⟩) hHeld ?_
          (try simp only [Act.put, List.setIfInBounds_toArray, List.set_cons_zero, List.set_cons_succ])
          refine tk (i := 9) (d := (some 54)) (v := undef) rfl rfl (by kernel_rfl) (by kernel_rfl) (by kernel_rfl) (fun _ _ _ h => h) (Or.inr ⟨by kernel_rfl, rfl⟩) hHeld ?_
          (try simp only [Act.put, List.setIfInBounds_toArray, List.set_cons_zero, List.set_cons_succ])
          refine tk (i := 10) (d := (some 55)) (v := undef) rfl rfl (by kernel_rfl) (by kernel_rfl) (by kernel_rfl) (fun _ _ _ h => h) (Or.inr ⟨by kernel_rfl, rfl⟩) hHeld ?_
          (try simp only [Act.put, List.setIfInBounds_toArray, List.set_cons_zero, List.set_cons_succ])
          refine tk (i := 11) (d := (some 56)) (v := undef) rfl rfl (by kernel_rfl) (by kernel_rfl) (by kernel_rfl) (fun _ _ _ h => h) (Or.inr ⟨by kernel_rfl, rfl⟩) hHeld ?_
          (try simp only [Act.put, List.setIfInBounds_toArray, List.set_cons_zero, List.set_cons_succ])
          refine tk (i := 12) (d := (some 57)) (v := ?_) rfl rfl (by kernel_rfl) (by kernel_rfl) (by kernel_rfl) (fun _ _ _ h => h) (Or.inl ⟨by rfl, ?_⟩) hHeld ?_
          rotate_left
          · intro w hSw; have zc0 := keepc hSw c0; have zc1 := keepc hSw c1; have zc2 := keepc hSw c2; clear hSw; go_simp <;> with_reducible rfl
          (try simp only [Act.put, List.setIfInBounds_toArray, List.set_cons_zero, List.set_cons_succ])
          refine tk (i := 13) (d := (some 58)) (v := ?_) rfl rfl (by kernel_rfl) (by kernel_rfl) (by kernel_rfl) (fun _ _ _ h => h) (Or.inl ⟨by rfl, ?_⟩) hHeld ?_
          rotate_left
          · intro w hSw; have zc0 := keepc hSw c0; have zc1 := keepc hSw c1; have zc2 := keepc hSw c2; clear hSw; go_simp <;> with_reducible rfl
          (try simp only [Act.put, List.setIfInBounds_toArray, List.set_cons_zero, List.set_cons_succ])
          refine tk (i := 14) (d := (some 59)) (v := ?_) rfl rfl (by kernel_rfl) (by kernel_rfl) (by kernel_rfl) (fun _ _ _ h => h) (Or.inl ⟨by rfl, ?_⟩) hHeld ?_
          rotate_left
          · intro w hSw; have zc0 := keepc hSw c0; have zc1 := keepc hSw c1; have zc2 := keepc hSw c2; clear hSw; go_simp <;> with_reducible rfl
          (try simp only [Act.put, List.setIfInBounds_toArray, List.set_cons_zero, List.set_cons_succ])
          refine tk (i := 15) (d := (some 60)) (v := ?_) rfl rfl (by kernel_rfl) (by kernel_rfl) (by kernel_rfl) (fun _ _ _ h => h) (Or.inl ⟨by rfl, ?_⟩) hHeld ?_
          rotate_left
          · intro w hSw; have zc0 := keepc hSw c0; have zc1 := keepc hSw c1; have zc2 := keepc hSw c2; clear hSw; go_simp <;> with_reducible rfl
          (try simp only [Act.put, List.setIfInBounds_toArray, List.set_cons_zero, List.set_cons_succ])
          refine tk (i := 16) (d := (some 61)) (v := ?_) rfl rfl (by kernel_rfl) (by kernel_rfl) (by kernel_rfl) (fun _ _ _ h => h) (Or.inl ⟨by rfl, ?_⟩) hHeld ?_
          rotate_left
          · intro w hSw; have zc0 := keepc hSw c0; have zc1 := keepc hSw c1; have zc2 := keepc hSw c2; clear hSw; go_simp <;> with_reducible rfl
          (try simp only [Act.put, List.setIfInBounds_toArray, List.set_cons_zero, List.set_cons_succ])
          refine tk (i := 17) (d := (some 62)) (v := ?_) rfl rfl (by kernel_rfl) (by kernel_rfl) (by kernel_rfl) (fun _ _ _ h => h) (Or.inl ⟨by rfl, ?_⟩) hHeld ?_
          rotate_left
          · intro w hSw; have zc0 := keepc hSw c0; have zc1 := keepc hSw c1; have zc2 := keepc hSw c2; clear hSw; go_simp <;> with_reducible rfl
          (try simp only [Act.put, List.setIfInBounds_toArray, List.set_cons_zero, List.set_cons_succ])
          refine tk (i := 18) (d := (some 63)) (v := ?_) rfl rfl (by kernel_rfl) (by kernel_rfl) (by kernel_rfl) (fun _ _ _ h => h) (Or.inl ⟨by rfl, ?_⟩) hHeld ?_
          rotate_left
          · intro w hSw; have zc0 := keepc hSw c0; have zc1 := keepc hSw c1; have zc2 := keepc hSw c2; clear hSw; go_simp <;> with_reducible rfl
          (try simp only [Act.put, List.setIfInBounds_toArray, List.set_cons_zero, List.set_cons_succ])
          refine wpAnyH_ready (rs := [19]) (by kernel_rfl) (by simp) ?_
          refine AllReadyH.cons rfl (fun K hK => ?_) AllReadyH.nil
          go_simp
          refine ((GIN.out u HU _ (HS.out.below (chn hb hHeld))).out).mono ?_; rintro e W ⟨rfl, hq⟩
          go_simp
          refine hK.out _ _ (chn hHeld hq) (fun h => ?_)
          clear hK K; replace hHeld := h; clear h hq
          (try simp only [Act.put, List.setIfInBounds_toArray, List.set_cons_zero, List.set_cons_succ])
          cases u with
          | false =>
            obtain rfl : r = false := HNO.out (fun h => by have h := h.2.2.1; rw [upM_tk] at h; exact absurd (HU.out.symm.trans h) (by simp))
            refine tk (i := 20) (d := (some 65)) (v := ?_) rfl rfl (by kernel_rfl) (by kernel_rfl) (by kernel_rfl) (fun _ _ _ h => h) (Or.inl ⟨by rfl, ?_⟩) hHeld ?_
            rotate_left
            · intro w hSw; have zc0 := keepc hSw c0; have zc1 := keepc hSw c1; have zc2 := keepc hSw c2; clear hSw; go_simp <;> with_reducible rfl
            (try simp only [Act.put, List.setIfInBounds_toArray, List.set_cons_zero, List.set_cons_succ])
            refine tk (i := 21) (d := (some 66)) (v := ?_) rfl rfl (by kernel_rfl) (by kernel_rfl) (by kernel_rfl) (fun _ _ _ h => h) (Or.inl ⟨by rfl, ?_⟩) hHeld ?_
            rotate_left
            · intro w hSw; have zc0 := keepc hSw c0; have zc1 := keepc hSw c1; have zc2 := keepc hSw c2; clear hSw; go_simp <;> with_reducible rfl
            (try simp only [Act.put, List.setIfInBounds_toArray, List.set_cons_zero, List.set_cons_succ])
            refine wpAnyH_done (by kernel_rfl) ?_ _
            replace hb := chn hb hHeld; clear hHeld
            go_wp2
            go_ret
            exact ⟨rfl, by repeat (first | exact hb | refine Below.alloc ?_ (by have := hb.size; simp; try omega) _)⟩
          | true =>
            refine tk (i := 20) (d := (some 65)) (v := ?_) rfl rfl (by kernel_rfl) (by kernel_rfl) (by kernel_rfl) (fun _ _ _ h => h) (Or.inl ⟨by rfl, ?_⟩) hHeld ?_
            rotate_left
            · intro w hSw; have zc0 := keepc hSw c0; have zc1 := keepc hSw c1; have zc2 := keepc hSw c2; clear hSw; go_simp <;> with_reducible rfl
            (try simp only [Act.put, List.setIfInBounds_toArray, List.set_cons_zero, List.set_cons_succ])
            refine tk (i := 21) (d := (some 66)) (v := ?_) rfl rfl (by kernel_rfl) (by kernel_rfl) (by kernel_rfl) (fun _ _ _ h => h) (Or.inl ⟨by rfl, ?_⟩) hHeld ?_
            rotate_left
            · intro w hSw; have zc0 := keepc hSw c0; have zc1 := keepc hSw c1; have zc2 := keepc hSw c2; clear hSw; go_simp <;> with_reducible rfl
            (try simp only [Act.put, List.setIfInBounds_toArray, List.set_cons_zero, List.set_cons_succ])
            refine wpAnyH_done (by kernel_rfl) ?_ _
            replace hb := chn hb hHeld; replace c0 := keepc hHeld c0; replace c1 := keepc hHeld c1; replace c2 := keepc hHeld c2; clear hHeld
            have HUQ := Lib.hid ((upM_tk xs 0 ep.data.toList).trans HU.out)
            by_cases k3 : 2 < ek
            · have d3 : decide (2 < ek) = true := by simp; omega
              go_wp2_with fail
              refine wp_region_held_drew (S := fun w' => Below _ _ w') (by kernel_rfl) (below_drew _) (fun hHeld => ?_)
              refine tk (i := 0) (d := (some 67)) (v := ?_) rfl rfl (by kernel_rfl) (by kernel_rfl) (by kernel_rfl) (fun _ _ _ h => h) (Or.inl ⟨by rfl, ?_⟩) hHeld ?_
              rotate_left
              · intro w hSw; have zc0 := keepc hSw c0; have zc1 := keepc hSw c1; have zc2 := keepc hSw c2; clear hSw; go_simp <;> with_reducible rfl
              (try simp only [Act.put, List.setIfInBounds_toArray, List.set_cons_zero, List.set_cons_succ])
              refine tk (i := 1) (d := (some 68)) (v := ?_) rfl rfl (by kernel_rfl) (by kernel_rfl) (by kernel_rfl) (fun _ _ _ h => h) (Or.inl ⟨by rfl, ?_⟩) hHeld ?_
              rotate_left
              · intro w hSw; have zc0 := keepc hSw c0; have zc1 := keepc hSw c1; have zc2 := keepc hSw c2; clear hSw; go_simp <;> with_reducible rfl
              (try simp only [Act.put, List.setIfInBounds_toArray, List.set_cons_zero, List.set_cons_succ])
              refine tk (i := 2) (d := (some 69)) (v := ?_) rfl rfl (by kernel_rfl) (by kernel_rfl) (by kernel_rfl) (fun _ _ _ h => h) (Or.inl ⟨by rfl, ?_⟩) hHeld ?_
              rotate_left
              · intro w hSw; have zc0 := keepc hSw c0; have zc1 := keepc hSw c1; have zc2 := keepc hSw c2; clear hSw; go_simp <;> with_reducible rfl
              (try simp only [Act.put, List.setIfInBounds_toArray, List.set_cons_zero, List.set_cons_succ])
              refine tk (i := 3) (d := (some 70)) (v := ?_) rfl rfl (by kernel_rfl) (by kernel_rfl) (by kernel_rfl) (fun _ _ _ h => h) (Or.inl ⟨by rfl, ?_⟩) hHeld ?_
              rotate_left
              · intro w hSw; have zc0 := keepc hSw c0; have zc1 := keepc hSw c1; have zc2 := keepc hSw c2; clear hSw; go_simp <;> with_reducible rfl
              (try simp only [Act.put, List.setIfInBounds_toArray, List.set_cons_zero, List.set_cons_succ])
              refine tk (i := 4) (d := (some 71)) (v := ?_) rfl rfl (by kernel_rfl) (by kernel_rfl) (by kernel_rfl) (fun _ _ _ h => h) (Or.inl ⟨by rfl, ?_⟩) hHeld ?_
              rotate_left
              · intro w hSw; have zc0 := keepc hSw c0; have zc1 := keepc hSw c1; have zc2 := keepc hSw c2; clear hSw; go_simp <;> with_reducible rfl
              (try simp only [Act.put, List.setIfInBounds_toArray, List.set_cons_zero, List.set_cons_succ])
              refine tk (i := 5) (d := (some 72)) (v := ?_) rfl rfl (by kernel_rfl) (by kernel_rfl) (by kernel_rfl) (fun _ _ _ h => h) (Or.inl ⟨by rfl, ?_⟩) hHeld ?_
              rotate_left
              · intro w hSw; have zc0 := keepc hSw c0; have zc1 := keepc hSw c1; have zc2 := keepc hSw c2; clear hSw; go_simp <;> with_reducible rfl
              (try simp only [Act.put, List.setIfInBounds_toArray, List.set_cons_zero, List.set_cons_succ])
              refine tk (i := 6) (d := (some 73)) (v := ?_) rfl rfl (by kernel_rfl) (by kernel_rfl) (by kernel_rfl) (fun _ _ _ h => h) (Or.inl ⟨by rfl, ?_⟩) hHeld ?_
              rotate_left
              · intro w hSw; have zc0 := keepc hSw c0; have zc1 := keepc hSw c1; have zc2 := keepc hSw c2; clear hSw; go_simp <;> with_reducible rfl
              (try simp only [Act.put, List.setIfInBounds_toArray, List.set_cons_zero, List.set_cons_succ])
              refine tk (i := 7) (d := (some 74)) (v := ?_) rfl rfl (by kernel_rfl) (by kernel_rfl) (by kernel_rfl) (fun _ _ _ h => h) (Or.inl ⟨by rfl, ?_⟩) hHeld ?_
              rotate_left
              · intro w hSw; have zc0 := keepc hSw c0; have zc1 := keepc hSw c1; have zc2 := keepc hSw c2; clear hSw; go_simp <;> with_reducible rfl
              (try simp only [Act.put, List.setIfInBounds_toArray, List.set_cons_zero, List.set_cons_succ])
              refine tk (i := 8) (d := (some 75)) (v := ?_) rfl rfl (by kernel_rfl) (by kernel_rfl) (by kernel_rfl) (fun _ _ _ h => h) (Or.inl ⟨by rfl, ?_⟩) hHeld ?_
              rotate_left
              · intro w hSw; have zc0 := keepc hSw c0; have zc1 := keepc hSw c1; have zc2 := keepc hSw c2; clear hSw; go_simp <;> with_reducible rfl
              (try simp only [Act.put, List.setIfInBounds_toArray, List.set_cons_zero, List.set_cons_succ])
              refine wpAnyH_ready (rs := [9]) (by kernel_rfl) (by simp) ?_
              refine AllReadyH.cons rfl (fun K hK => ?_) AllReadyH.nil
              go_simp
              refine ((GBR.out v HV _ (HS.out.below (chn hb hHeld))).out).mono ?_; rintro e W ⟨rfl, hq⟩
              go_simp
              refine hK.out _ _ (chn hHeld hq) (fun h => ?_)
              clear hK K; replace hHeld := h; clear h hq
              (try simp only [Act.put, List.setIfInBounds_toArray, List.set_cons_zero, List.set_cons_succ])
              cases v with
              | true =>
                obtain rfl : r = false := HNO.out (fun h => by have h := h.2.2.2 k3; exact absurd ((HVB.out).symm.trans h) (by simp))
                refine tk (i := 10) (d := (some 77)) (v := ?_) rfl rfl (by kernel_rfl) (by kernel_rfl) (by kernel_rfl) (fun _ _ _ h => h) (Or.inl ⟨by rfl, ?_⟩) hHeld ?_
                rotate_left
                · intro w hSw; have zc0 := keepc hSw c0; have zc1 := keepc hSw c1; have zc2 := keepc hSw c2; clear hSw; go_simp <;> with_reducible rfl
                (try simp only [Act.put, List.setIfInBounds_toArray, List.set_cons_zero, List.set_cons_succ])
                refine wpAnyH_done (by kernel_rfl) ?_ _
                replace hb := chn hb hHeld; clear hHeld
                go_wp2
                go_ret
                exact ⟨rfl, by repeat (first | exact hb | refine Below.alloc ?_ (by have := hb.size; simp; try omega) _)⟩
              | false =>
                refine tk (i := 10) (d := (some 77)) (v := ?_) rfl rfl (by kernel_rfl) (by kernel_rfl) (by kernel_rfl) (fun _ _ _ h => h) (Or.inl ⟨by rfl, ?_⟩) hHeld ?_
                rotate_left
                · intro w hSw; have zc0 := keepc hSw c0; have zc1 := keepc hSw c1; have zc2 := keepc hSw c2; clear hSw; go_simp <;> with_reducible rfl
                (try simp only [Act.put, List.setIfInBounds_toArray, List.set_cons_zero, List.set_cons_succ])
                refine wpAnyH_done (by kernel_rfl) ?_ _
                replace hb := chn hb hHeld; clear hHeld
                go_wp2
                go_roundw
                case rel => exact ⟨(0+1), by omega, by go_num, ASK.out HUQ.out (fun _ => HVB.out), by repeat (first | exact hb | refine Below.alloc ?_ (by have := hb.size; simp; try omega) _)⟩
                case measure => simp [intOf]; omega
            · have d3 : decide (2 < ek) = false := by simp; omega
              go_wp2_with fail
              refine wp_region_held_drew (S := fun w' => Below _ _ w') (by kernel_rfl) (below_drew _) (fun hHeld => ?_)
              refine tk (i := 0) (d := (some 67)) (v := ?_) rfl rfl (by kernel_rfl) (by kernel_rfl) (by kernel_rfl) (fun _ _ _ h => h) (Or.inl ⟨by rfl, ?_⟩) hHeld ?_
              rotate_left
              · intro w hSw; have zc0 := keepc hSw c0; have zc1 := keepc hSw c1; have zc2 := keepc hSw c2; clear hSw; go_simp <;> with_reducible rfl
              (try simp only [Act.put, List.setIfInBounds_toArray, List.set_cons_zero, List.set_cons_succ])
              refine tk (i := 1) (d := (some 68)) (v := ?_) rfl rfl (by kernel_rfl) (by kernel_rfl) (by kernel_rfl) (fun _ _ _ h => h) (Or.inl ⟨by rfl, ?_⟩) hHeld ?_
              rotate_left
              · intro w hSw; have zc0 := keepc hSw c0; have zc1 := keepc hSw c1; have zc2 := keepc hSw c2; clear hSw; go_simp <;> with_reducible rfl
              (try simp only [Act.put, List.setIfInBounds_toArray, List.set_cons_zero, List.set_cons_succ])
              refine tk (i := 2) (d := (some 69)) (v := ?_) rfl rfl (by kernel_rfl) (by kernel_rfl) (by kernel_rfl) (fun _ _ _ h => h) (Or.inl ⟨by rfl, ?_⟩) hHeld ?_
              rotate_left
              · intro w hSw; have zc0 := keepc hSw c0; have zc1 := keepc hSw c1; have zc2 := keepc hSw c2; clear hSw; go_simp <;> with_reducible rfl
              (try simp only [Act.put, List.setIfInBounds_toArray, List.set_cons_zero, List.set_cons_succ])
              refine tk (i := 3) (d := (some 70)) (v := ?_) rfl rfl (by kernel_rfl) (by kernel_rfl) (by kernel_rfl) (fun _ _ _ h => h) (Or.inl ⟨by rfl, ?_⟩) hHeld ?_
              rotate_left
              · intro w hSw; have zc0 := keepc hSw c0; have zc1 := keepc hSw c1; have zc2 := keepc hSw c2; clear hSw; go_simp <;> with_reducible rfl
              (try simp only [Act.put, List.setIfInBounds_toArray, List.set_cons_zero, List.set_cons_succ])
              refine tk (i := 4) (d := (some 71)) (v := undef) rfl rfl (by kernel_rfl) (by kernel_rfl) (by kernel_rfl) (fun _ _ _ h => h) (Or.inr ⟨by kernel_rfl, rfl⟩) hHeld ?_
              (try simp only [Act.put, List.setIfInBounds_toArray, List.set_cons_zero, List.set_cons_succ])
              refine tk (i := 5) (d := (some 72)) (v := undef) rfl rfl (by kernel_rfl) (by kernel_rfl) (by kernel_rfl) (fun _ _ _ h => h) (Or.inr ⟨by kernel_rfl, rfl⟩) hHeld ?_
              (try simp only [Act.put, List.setIfInBounds_toArray, List.set_cons_zero, List.set_cons_succ])
              refine tk (i := 6) (d := (some 73)) (v := undef) rfl rfl (by kernel_rfl) (by kernel_rfl) (by kernel_rfl) (fun _ _ _ h => h) (Or.inr ⟨by kernel_rfl, rfl⟩) hHeld ?_
              (try simp only [Act.put, List.setIfInBounds_toArray, List.set_cons_zero, List.set_cons_succ])
              refine tk (i := 7) (d := (some 74)) (v := undef) rfl rfl (by kernel_rfl) (by kernel_rfl) (by kernel_rfl) (fun _ _ _ h => h) (Or.inr ⟨by kernel_rfl, rfl⟩) hHeld ?_
              (try simp only [Act.put, List.setIfInBounds_toArray, List.set_cons_zero, List.set_cons_succ])
              refine tk (i := 8) (d := (some 75)) (v := undef) rfl rfl (by kernel_rfl) (by kernel_rfl) (by kernel_rfl) (fun _ _ _ h => h) (Or.inr ⟨by kernel_rfl, rfl⟩) hHeld ?_
              (try simp only [Act.put, List.setIfInBounds_toArray, List.set_cons_zero, List.set_cons_succ])
              refine tk (i := 9) (d := (some 76)) (v := undef) rfl rfl (by kernel_rfl) (by kernel_rfl) (by kernel_rfl) (fun _ _ _ h => h) (Or.inr ⟨by kernel_rfl, rfl⟩) hHeld ?_
              (try simp only [Act.put, List.setIfInBounds_toArray, List.set_cons_zero, List.set_cons_succ])
              refine tk (i := 10) (d := (some 77)) (v := ?_) rfl rfl (by kernel_rfl) (by kernel_rfl) (by kernel_rfl) (fun _ _ _ h => h) (Or.inl ⟨by rfl, ?_⟩) hHeld ?_
              rotate_left
              · intro w hSw; have zc0 := keepc hSw c0; have zc1 := keepc hSw c1; have zc2 := keepc hSw c2; clear hSw; go_simp <;> with_reducible rfl
              (try simp only [Act.put, List.setIfInBounds_toArray, List.set_cons_zero, List.set_cons_succ])
              refine wpAnyH_done (by kernel_rfl) ?_ _
              replace hb := chn hb hHeld; clear hHeld
              go_wp2
              go_roundw
              case rel => exact ⟨(0+1), by omega, by go_num, ASK.out HUQ.out (fun h => (by exfalso; omega)), by repeat (first | exact hb | refine Below.alloc ?_ (by have := hb.size; simp; try omega) _)⟩
              case measure => simp [intOf]; omega
      | succ k =>
        obtain ⟨f, hff⟩ : ∃ f, xs[k]? = some f := ⟨_, List.getElem?_eq_getElem (by rw [HN.out]; omega)⟩
        obtain ⟨c3, _, _⟩ := mk_at h3 k f hff
        replace c3 := keepc (bellow_alloc wr (.cells #[.string ep, .int .i64 ek, .string ex] 45)) c3
        have HFF := Lib.hid hff
        clear hff h3
        have w0 : IntKind.i64.wrap (k : Int) = (k : Int) := IntWalk.i64_in _ (by omega)
        have w1 : (0 : Int) ≤ (k : Int) := by omega
        have w2 : (k : Int) < (n : Int) := by omega
        have w3 : (0 : Int) ≤ (k : Int) + 1 := by omega
        have w4 : (k : Int) + 1 ≤ (c : Int) := by omega
        rcases Bool.eq_false_or_eq_true (Op.bytesLess f.p.toList ep.toList) with hle | hle
        · have HLE := Lib.hid hle
          have ASK := Lib.hid (fun (h3 : upM ((xs.map Mk.pl).take (k + 1)) ep.data.toList = true) (h4 : 2 < ek → bareL ((xs.map Mk.pl).take (k + 1)) ep.data.toList = false) (j : Nat) (g : Mk) (hj : j < k + 1 + 1) (hg : xs[j]? = some g) => (by
            by_cases ej : j = k + 1
            · subst ej
              rw [HEE.out] at hg
              injection hg with hg
              rw [← hg]
              exact ⟨HM1.out, mless_of xs k f ⟨ep, ek, ex⟩ HFF.out HLE.out, h3, h4⟩
            · exact HA.out j g (by omega) hg : MAskR xs j g))
          rcases hk1 with n1 | ⟨n1, q1⟩
          all_goals
            go_wp2_with fail
            refine (sPathOk_c ep true HP1 _ HZ1.out).mono ?_; rintro e W ⟨rfl, hq⟩; replace hb := chn hb hq; replace c0 := keepc hq c0; replace c1 := keepc hq c1; replace c2 := keepc hq c2; replace c3 := keepc hq c3; clear hq
            go_wp2_with fail
            refine (l2Data_c ex true HP2 _ HZ2.out).mono ?_; rintro e' W' ⟨rfl, rfl⟩
            go_wp2_with fail
            refine wp_region_held_drew (S := fun w' => Below _ _ w') (by kernel_rfl) (below_drew _) (fun hHeld => ?_)
            refine tk (i := 0) (d := (some 45)) (v := ?_) rfl rfl (by kernel_rfl) (by kernel_rfl) (by kernel_rfl) (fun _ _ _ h => h) (Or.inl ⟨by rfl, ?_⟩) hHeld ?_
            rotate_left
            · intro w hSw; have zc0 := keepc hSw c0; have zc1 := keepc hSw c1; have zc2 := keepc hSw c2; have zc3 := keepc hSw c3; clear hSw; go_simp <;> with_reducible rfl
            (try simp only [Act.put, List.setIfInBounds_toArray, List.set_cons_zero, List.set_cons_succ])
            refine tk (i := 1) (d := (some 46)) (v := ?_) rfl rfl (by kernel_rfl) (by kernel_rfl) (by kernel_rfl) (fun _ _ _ h => h) (Or.inl ⟨by rfl, ?_⟩) hHeld ?_
            rotate_left
            · intro w hSw; have zc0 := keepc hSw c0; have zc1 := keepc hSw c1; have zc2 := keepc hSw c2; have zc3 := keepc hSw c3; clear hSw; go_simp <;> with_reducible rfl
            (try simp only [Act.put, List.setIfInBounds_toArray, List.set_cons_zero, List.set_cons_succ])
            refine tk (i := 2) (d := (some 47)) (v := ?_) rfl rfl (by kernel_rfl) (by kernel_rfl) (by kernel_rfl) (fun _ _ _ h => h) (Or.inl ⟨by rfl, ?_⟩) hHeld ?_
            rotate_left
            · intro w hSw; have zc0 := keepc hSw c0; have zc1 := keepc hSw c1; have zc2 := keepc hSw c2; have zc3 := keepc hSw c3; clear hSw; go_simp <;> with_reducible rfl
            (try simp only [Act.put, List.setIfInBounds_toArray, List.set_cons_zero, List.set_cons_succ])
            refine tk (i := 3) (d := (some 48)) (v := ?_) rfl rfl (by kernel_rfl) (by kernel_rfl) (by kernel_rfl) (fun _ _ _ h => h) (Or.inl ⟨by rfl, ?_⟩) hHeld ?_
            rotate_left
            · intro w hSw; have zc0 := keepc hSw c0; have zc1 := keepc hSw c1; have zc2 := keepc hSw c2; have zc3 := keepc hSw c3; clear hSw; go_simp <;> with_reducible rfl
            (try simp only [Act.put, List.setIfInBounds_toArray, List.set_cons_zero, List.set_cons_succ])
            refine tk (i := 4) (d := (some 49)) (v := ?_) rfl rfl (by kernel_rfl) (by kernel_rfl) (by kernel_rfl) (fun _ _ _ h => h) (Or.inl ⟨by rfl, ?_⟩) hHeld ?_
            rotate_left
            · intro w hSw; have zc0 := keepc hSw c0; have zc1 := keepc hSw c1; have zc2 := keepc hSw c2; have zc3 := keepc hSw c3; clear hSw; go_simp <;> with_reducible rfl
            (try simp only [Act.put, List.setIfInBounds_toArray, List.set_cons_zero, List.set_cons_succ])
            refine tk (i := 5) (d := (some 50)) (v := ?_) rfl rfl (by kernel_rfl) (by kernel_rfl) (by kernel_rfl) (fun _ _ _ h => h) (Or.inl ⟨by rfl, ?_⟩) hHeld ?_
            rotate_left
            · intro w hSw; have zc0 := keepc hSw c0; have zc1 := keepc hSw c1; have zc2 := keepc hSw c2; have zc3 := keepc hSw c3; clear hSw; go_simp <;> with_reducible rfl
            (try simp only [Act.put, List.setIfInBounds_toArray, List.set_cons_zero, List.set_cons_succ])
            refine tk (i := 6) (d := (some 51)) (v := ?_) rfl rfl (by kernel_rfl) (by kernel_rfl) (by kernel_rfl) (fun _ _ _ h => h) (Or.inl ⟨by rfl, ?_⟩) hHeld ?_
            rotate_left
            · intro w hSw; have zc0 := keepc hSw c0; have zc1 := keepc hSw c1; have zc2 := keepc hSw c2; have zc3 := keepc hSw c3; clear hSw; go_simp <;> with_reducible rfl
            (try simp only [Act.put, List.setIfInBounds_toArray, List.set_cons_zero, List.set_cons_succ])
            refine tk (i := 7) (d := (some 52)) (v := ?_) rfl rfl (by kernel_rfl) (by kernel_rfl) (by kernel_rfl) (fun _ _ _ h => h) (Or.inl ⟨by rfl, ?_⟩) hHeld ?_
            rotate_left
            · intro w hSw; have zc0 := keepc hSw c0; have zc1 := keepc hSw c1; have zc2 := keepc hSw c2; have zc3 := keepc hSw c3; clear hSw; go_simp <;> with_reducible rfl
            (try simp only [Act.put, List.setIfInBounds_toArray, List.set_cons_zero, List.set_cons_succ])
            refine tk (i := 8) (d := (some 53)) (v := ?_) rfl rfl (by kernel_rfl) (by kernel_rfl) (by kernel_rfl) (fun _ _ _ h => h) (Or.inl ⟨by rfl, ?_⟩) hHeld ?_
            rotate_left
            · intro w hSw; have zc0 := keepc hSw c0; have zc1 := keepc hSw c1; have zc2 := keepc hSw c2; have zc3 := keepc hSw c3; clear hSw; go_simp <;> with_reducible rfl
            (try simp only [Act.put, List.setIfInBounds_toArray, List.set_cons_zero, List.set_cons_succ])
            refine tk (i := 9) (d := (some 54)) (v := ?_) rfl rfl (by kernel_rfl) (by kernel_rfl) (by kernel_rfl) (fun _ _ _ h => h) (Or.inl ⟨by rfl, ?_⟩) hHeld ?_
            rotate_left
            · intro w hSw; have zc0 := keepc hSw c0; have zc1 := keepc hSw c1; have zc2 := keepc hSw c2; have zc3 := keepc hSw c3; clear hSw; go_simp <;> with_reducible rfl
            (try simp only [Act.put, List.setIfInBounds_toArray, List.set_cons_zero, List.set_cons_succ])
            refine tk (i := 10) (d := (some 55)) (v := ?_) rfl rfl (by kernel_rfl) (by kernel_rfl) (by kernel_rfl) (fun _ _ _ h => h) (Or.inl ⟨by rfl, ?_⟩) hHeld ?_
            rotate_left
            · intro w hSw; have zc0 := keepc hSw c0; have zc1 := keepc hSw c1; have zc2 := keepc hSw c2; have zc3 := keepc hSw c3; clear hSw; go_simp <;> with_reducible rfl
            (try simp only [Act.put, List.setIfInBounds_toArray, List.set_cons_zero, List.set_cons_succ])
            refine tk (i := 11) (d := (some 56)) (v := ?_) rfl rfl (by kernel_rfl) (by kernel_rfl) (by kernel_rfl) (fun _ _ _ h => h) (Or.inl ⟨by rfl, ?_⟩) hHeld ?_
            rotate_left
            · intro w hSw; have zc0 := keepc hSw c0; have zc1 := keepc hSw c1; have zc2 := keepc hSw c2; have zc3 := keepc hSw c3; clear hSw; go_simp <;> with_reducible rfl
            (try simp only [Act.put, List.setIfInBounds_toArray, List.set_cons_zero, List.set_cons_succ])
            refine tk (i := 12) (d := (some 57)) (v := ?_) rfl rfl (by kernel_rfl) (by kernel_rfl) (by kernel_rfl) (fun _ _ _ h => h) (Or.inl ⟨by rfl, ?_⟩) hHeld ?_
            rotate_left
            · intro w hSw; have zc0 := keepc hSw c0; have zc1 := keepc hSw c1; have zc2 := keepc hSw c2; have zc3 := keepc hSw c3; clear hSw; go_simp <;> with_reducible rfl
            (try simp only [Act.put, List.setIfInBounds_toArray, List.set_cons_zero, List.set_cons_succ])
            refine tk (i := 13) (d := (some 58)) (v := ?_) rfl rfl (by kernel_rfl) (by kernel_rfl) (by kernel_rfl) (fun _ _ _ h => h) (Or.inl ⟨by rfl, ?_⟩) hHeld ?_
            rotate_left
            · intro w hSw; have zc0 := keepc hSw c0; have zc1 := keepc hSw c1; have zc2 := keepc hSw c2; have zc3 := keepc hSw c3; clear hSw; go_simp <;> with_reducible rfl
            (try simp only [Act.put, List.setIfInBounds_toArray, List.set_cons_zero, List.set_cons_succ])
            refine tk (i := 14) (d := (some 59)) (v := ?_) rfl rfl (by kernel_rfl) (by kernel_rfl) (by kernel_rfl) (fun _ _ _ h => h) (Or.inl ⟨by rfl, ?_⟩) hHeld ?_
            rotate_left
            · intro w hSw; have zc0 := keepc hSw c0; have zc1 := keepc hSw c1; have zc2 := keepc hSw c2; have zc3 := keepc hSw c3; clear hSw; go_simp <;> with_reducible rfl
            (try simp only [Act.put, List.setIfInBounds_toArray, List.set_cons_zero, List.set_cons_succ])
            refine tk (i := 15) (d := (some 60)) (v := ?_) rfl rfl (by kernel_rfl) (by kernel_rfl) (by kernel_rfl) (fun _ _ _ h => h) (Or.inl ⟨by rfl, ?_⟩) hHeld ?_
            rotate_left
            · intro w hSw; have zc0 := keepc hSw c0; have zc1 := keepc hSw c1; have zc2 := keepc hSw c2; have zc3 := keepc hSw c3; clear hSw; go_simp <;> with_reducible rfl
            (try simp only [Act.put, List.setIfInBounds_toArray, List.set_cons_zero, List.set_cons_succ])
            refine tk (i := 16) (d := (some 61)) (v := ?_) rfl rfl (by kernel_rfl) (by kernel_rfl) (by kernel_rfl) (fun _ _ _ h => h) (Or.inl ⟨by rfl, ?_⟩) hHeld ?_
            rotate_left
            · intro w hSw; have zc0 := keepc hSw c0; have zc1 := keepc hSw c1; have zc2 := keepc hSw c2; have zc3 := keepc hSw c3; clear hSw; go_simp <;> with_reducible rfl
            (try simp only [Act.put, List.setIfInBounds_toArray, List.set_cons_zero, List.set_cons_succ])
            refine tk (i := 17) (d := (some 62)) (v := ?_) rfl rfl (by kernel_rfl) (by kernel_rfl) (by kernel_rfl) (fun _ _ _ h => h) (Or.inl ⟨by rfl, ?_⟩) hHeld ?_
            rotate_left
            · intro w hSw; have zc0 := keepc hSw c0; have zc1 := keepc hSw c1; have zc2 := keepc hSw c2; have zc3 := keepc hSw c3; clear hSw; go_simp <;> with_reducible rfl
            (try simp only [Act.put, List.setIfInBounds_toArray, List.set_cons_zero, List.set_cons_succ])
            refine tk (i := 18) (d := (some 63)) (v := ?_) rfl rfl (by kernel_rfl) (by kernel_rfl) (by kernel_rfl) (fun _ _ _ h => h) (Or.inl ⟨by rfl, ?_⟩) hHeld ?_
            rotate_left
            · intro w hSw; have zc0 := keepc hSw c0; have zc1 := keepc hSw c1; have zc2 := keepc hSw c2; have zc3 := keepc hSw c3; clear hSw; go_simp <;> with_reducible rfl
            (try simp only [Act.put, List.setIfInBounds_toArray, List.set_cons_zero, List.set_cons_succ])
            refine wpAnyH_ready (rs := [19]) (by kernel_rfl) (by simp) ?_
            refine AllReadyH.cons rfl (fun K hK => ?_) AllReadyH.nil
            go_simp
            refine ((GIN.out u HU _ (HS.out.below (chn hb hHeld))).out).mono ?_; rintro e W ⟨rfl, hq⟩
            go_simp
            refine hK.out _ _ (chn hHeld hq) (fun h => ?_)
            clear hK K; replace hHeld := h; clear h hq
            (try simp only [Act.put, List.setIfInBounds_toArray, List.set_cons_zero, List.set_cons_succ])
            cases u with
            | false =>
              obtain rfl : r = false := HNO.out (fun h => by have h := h.2.2.1; rw [upM_tk] at h; exact absurd (HU.out.symm.trans h) (by simp))
              refine tk (i := 20) (d := (some 65)) (v := ?_) rfl rfl (by kernel_rfl) (by kernel_rfl) (by kernel_rfl) (fun _ _ _ h => h) (Or.inl ⟨by rfl, ?_⟩) hHeld ?_
              rotate_left
              · intro w hSw; have zc0 := keepc hSw c0; have zc1 := keepc hSw c1; have zc2 := keepc hSw c2; have zc3 := keepc hSw c3; clear hSw; go_simp <;> with_reducible rfl
              (try simp only [Act.put, List.setIfInBounds_toArray, List.set_cons_zero, List.set_cons_succ])
              refine tk (i := 21) (d := (some 66)) (v := ?_) rfl rfl (by kernel_rfl) (by kernel_rfl) (by kernel_rfl) (fun _ _ _ h => h) (Or.inl ⟨by rfl, ?_⟩) hHeld ?_
              rotate_left
              · intro w hSw; have zc0 := keepc hSw c0; have zc1 := keepc hSw c1; have zc2 := keepc hSw c2; have zc3 := keepc hSw c3; clear hSw; go_simp <;> with_reducible rfl
              (try simp only [Act.put, List.setIfInBounds_toArray, List.set_cons_zero, List.set_cons_succ])
              refine wpAnyH_done (by kernel_rfl) ?_ _
              replace hb := chn hb hHeld; clear hHeld
              go_wp2
              go_ret
              exact ⟨rfl, by repeat (first | exact hb | refine Below.alloc ?_ (by have := hb.size; simp; try omega) _)⟩
            | true =>
              refine tk (i := 20) (d := (some 65)) (v := ?_) rfl rfl (by kernel_rfl) (by kernel_rfl) (by kernel_rfl) (fun _ _ _ h => h) (Or.inl ⟨by rfl, ?_⟩) hHeld ?_
              rotate_left
              · intro w hSw; have zc0 := keepc hSw c0; have zc1 := keepc hSw c1; have zc2 := keepc hSw c2; have zc3 := keepc hSw c3; clear hSw; go_simp <;> with_reducible rfl
              (try simp only [Act.put, List.setIfInBounds_toArray, List.set_cons_zero, List.set_cons_succ])
              refine tk (i := 21) (d := (some 66)) (v := ?_) rfl rfl (by kernel_rfl) (by kernel_rfl) (by kernel_rfl) (fun _ _ _ h => h) (Or.inl ⟨by rfl, ?_⟩) hHeld ?_
              rotate_left
              · intro w hSw; have zc0 := keepc hSw c0; have zc1 := keepc hSw c1; have zc2 := keepc hSw c2; have zc3 := keepc hSw c3; clear hSw; go_simp <;> with_reducible rfl
              (try simp only [Act.put, List.setIfInBounds_toArray, List.set_cons_zero, List.set_cons_succ])
              refine wpAnyH_done (by kernel_rfl) ?_ _
              replace hb := chn hb hHeld; replace c0 := keepc hHeld c0; replace c1 := keepc hHeld c1; replace c2 := keepc hHeld c2; clear hHeld
              have HUQ := Lib.hid ((upM_tk xs (k+1) ep.data.toList).trans HU.out)
              by_cases k3 : 2 < ek
              · have d3 : decide (2 < ek) = true := by simp; omega
                go_wp2_with fail
                refine wp_region_held_drew (S := fun w' => Below _ _ w') (by kernel_rfl) (below_drew _) (fun hHeld => ?_)
                refine tk (i := 0) (d := (some 67)) (v := ?_) rfl rfl (by kernel_rfl) (by kernel_rfl) (by kernel_rfl) (fun _ _ _ h => h) (Or.inl ⟨by rfl, ?_⟩) hHeld ?_
                rotate_left
                · intro w hSw; have zc0 := keepc hSw c0; have zc1 := keepc hSw c1; have zc2 := keepc hSw c2; clear hSw; go_simp <;> with_reducible rfl
                (try simp only [Act.put, List.setIfInBounds_toArray, List.set_cons_zero, List.set_cons_succ])
                refine tk (i := 1) (d := (some 68)) (v := ?_) rfl rfl (by kernel_rfl) (by kernel_rfl) (by kernel_rfl) (fun _ _ _ h => h) (Or.inl ⟨by rfl, ?_⟩) hHeld ?_
                rotate_left
                · intro w hSw; have zc0 := keepc hSw c0; have zc1 := keepc hSw c1; have zc2 := keepc hSw c2; clear hSw; go_simp <;> with_reducible rfl
                (try simp only [Act.put, List.setIfInBounds_toArray, List.set_cons_zero, List.set_cons_succ])
                refine tk (i := 2) (d := (some 69)) (v := ?_) rfl rfl (by kernel_rfl) (by kernel_rfl) (by kernel_rfl) (fun _ _ _ h => h) (Or.inl ⟨by rfl, ?_⟩) hHeld ?_
                rotate_left
                · intro w hSw; have zc0 := keepc hSw c0; have zc1 := keepc hSw c1; have zc2 := keepc hSw c2; clear hSw; go_simp <;> with_reducible rfl
                (try simp only [Act.put, List.setIfInBounds_toArray, List.set_cons_zero, List.set_cons_succ])
                refine tk (i := 3) (d := (some 70)) (v := ?_) rfl rfl (by kernel_rfl) (by kernel_rfl) (by kernel_rfl) (fun _ _ _ h => h) (Or.inl ⟨by rfl, ?_⟩) hHeld ?_
                rotate_left
                · intro w hSw; have zc0 := keepc hSw c0; have zc1 := keepc hSw c1; have zc2 := keepc hSw c2; clear hSw; go_simp <;> with_reducible rfl
                (try simp only [Act.put, List.setIfInBounds_toArray, List.set_cons_zero, List.set_cons_succ])
                refine tk (i := 4) (d := (some 71)) (v := ?_) rfl rfl (by kernel_rfl) (by kernel_rfl) (by kernel_rfl) (fun _ _ _ h => h) (Or.inl ⟨by rfl, ?_⟩) hHeld ?_
                rotate_left
                · intro w hSw; have zc0 := keepc hSw c0; have zc1 := keepc hSw c1; have zc2 := keepc hSw c2; clear hSw; go_simp <;> with_reducible rfl
                (try simp only [Act.put, List.setIfInBounds_toArray, List.set_cons_zero, List.set_cons_succ])
                refine tk (i := 5) (d := (some 72)) (v := ?_) rfl rfl (by kernel_rfl) (by kernel_rfl) (by kernel_rfl) (fun _ _ _ h => h) (Or.inl ⟨by rfl, ?_⟩) hHeld ?_
                rotate_left
                · intro w hSw; have zc0 := keepc hSw c0; have zc1 := keepc hSw c1; have zc2 := keepc hSw c2; clear hSw; go_simp <;> with_reducible rfl
                (try simp only [Act.put, List.setIfInBounds_toArray, List.set_cons_zero, List.set_cons_succ])
                refine tk (i := 6) (d := (some 73)) (v := ?_) rfl rfl (by kernel_rfl) (by kernel_rfl) (by kernel_rfl) (fun _ _ _ h => h) (Or.inl ⟨by rfl, ?_⟩) hHeld ?_
                rotate_left
                · intro w hSw; have zc0 := keepc hSw c0; have zc1 := keepc hSw c1; have zc2 := keepc hSw c2; clear hSw; go_simp <;> with_reducible rfl
                (try simp only [Act.put, List.setIfInBounds_toArray, List.set_cons_zero, List.set_cons_succ])
                refine tk (i := 7) (d := (some 74)) (v := ?_) rfl rfl (by kernel_rfl) (by kernel_rfl) (by kernel_rfl) (fun _ _ _ h => h) (Or.inl ⟨by rfl, ?_⟩) hHeld ?_
                rotate_left
                · intro w hSw; have zc0 := keepc hSw c0; have zc1 := keepc hSw c1; have zc2 := keepc hSw c2; clear hSw; go_simp <;> with_reducible rfl
                (try simp only [Act.put, List.setIfInBounds_toArray, List.set_cons_zero, List.set_cons_succ])
                refine tk (i := 8) (d := (some 75)) (v := ?_) rfl rfl (by kernel_rfl) (by kernel_rfl) (by kernel_rfl) (fun _ _ _ h => h) (Or.inl ⟨by rfl, ?_⟩) hHeld ?_
                rotate_left
                · intro w hSw; have zc0 := keepc hSw c0; have zc1 := keepc hSw c1; have zc2 := keepc hSw c2; clear hSw; go_simp <;> with_reducible rfl
                (try simp only [Act.put, List.setIfInBounds_toArray, List.set_cons_zero, List.set_cons_succ])
                refine wpAnyH_ready (rs := [9]) (by kernel_rfl) (by simp) ?_
                refine AllReadyH.cons rfl (fun K hK => ?_) AllReadyH.nil
                go_simp
                refine ((GBR.out v HV _ (HS.out.below (chn hb hHeld))).out).mono ?_; rintro e W ⟨rfl, hq⟩
                go_simp
                refine hK.out _ _ (chn hHeld hq) (fun h => ?_)
                clear hK K; replace hHeld := h; clear h hq
                (try simp only [Act.put, List.setIfInBounds_toArray, List.set_cons_zero, List.set_cons_succ])
                cases v with
                | true =>
                  obtain rfl : r = false := HNO.out (fun h => by have h := h.2.2.2 k3; exact absurd ((HVB.out).symm.trans h) (by simp))
                  refine tk (i := 10) (d := (some 77)) (v := ?_) rfl rfl (by kernel_rfl) (by kernel_rfl) (by kernel_rfl) (fun _ _ _ h => h) (Or.inl ⟨by rfl, ?_⟩) hHeld ?_
                  rotate_left
                  · intro w hSw; have zc0 := keepc hSw c0; have zc1 := keepc hSw c1; have zc2 := keepc hSw c2; clear hSw; go_simp <;> with_reducible rfl
                  (try simp only [Act.put, List.setIfInBounds_toArray, List.set_cons_zero, List.set_cons_succ])
                  refine wpAnyH_done (by kernel_rfl) ?_ _
                  replace hb := chn hb hHeld; clear hHeld
                  go_wp2
                  go_ret
                  exact ⟨rfl, by repeat (first | exact hb | refine Below.alloc ?_ (by have := hb.size; simp; try omega) _)⟩
                | false =>
                  refine tk (i := 10) (d := (some 77)) (v := ?_) rfl rfl (by kernel_rfl) (by kernel_rfl) (by kernel_rfl) (fun _ _ _ h => h) (Or.inl ⟨by rfl, ?_⟩) hHeld ?_
                  rotate_left
                  · intro w hSw; have zc0 := keepc hSw c0; have zc1 := keepc hSw c1; have zc2 := keepc hSw c2; clear hSw; go_simp <;> with_reducible rfl
                  (try simp only [Act.put, List.setIfInBounds_toArray, List.set_cons_zero, List.set_cons_succ])
                  refine wpAnyH_done (by kernel_rfl) ?_ _
                  replace hb := chn hb hHeld; clear hHeld
                  go_wp2
                  go_roundw
                  case rel => exact ⟨(k+1+1), by omega, by go_num, ASK.out HUQ.out (fun _ => HVB.out), by repeat (first | exact hb | refine Below.alloc ?_ (by have := hb.size; simp; try omega) _)⟩
                  case measure => simp [intOf]; omega
              · have d3 : decide (2 < ek) = false := by simp; omega
                go_wp2_with fail
                refine wp_region_held_drew (S := fun w' => Below _ _ w') (by kernel_rfl) (below_drew _) (fun hHeld => ?_)
                refine tk (i := 0) (d := (some 67)) (v := ?_) rfl rfl (by kernel_rfl) (by kernel_rfl) (by kernel_rfl) (fun _ _ _ h => h) (Or.inl ⟨by rfl, ?_⟩) hHeld ?_
                rotate_left
                · intro w hSw; have zc0 := keepc hSw c0; have zc1 := keepc hSw c1; have zc2 := keepc hSw c2; clear hSw; go_simp <;> with_reducible rfl
                (try simp only [Act.put, List.setIfInBounds_toArray, List.set_cons_zero, List.set_cons_succ])
                refine tk (i := 1) (d := (some 68)) (v := ?_) rfl rfl (by kernel_rfl) (by kernel_rfl) (by kernel_rfl) (fun _ _ _ h => h) (Or.inl ⟨by rfl, ?_⟩) hHeld ?_
                rotate_left
                · intro w hSw; have zc0 := keepc hSw c0; have zc1 := keepc hSw c1; have zc2 := keepc hSw c2; clear hSw; go_simp <;> with_reducible rfl
                (try simp only [Act.put, List.setIfInBounds_toArray, List.set_cons_zero, List.set_cons_succ])
                refine tk (i := 2) (d := (some 69)) (v := ?_) rfl rfl (by kernel_rfl) (by kernel_rfl) (by kernel_rfl) (fun _ _ _ h => h) (Or.inl ⟨by rfl, ?_⟩) hHeld ?_
                rotate_left
                · intro w hSw; have zc0 := keepc hSw c0; have zc1 := keepc hSw c1; have zc2 := keepc hSw c2; clear hSw; go_simp <;> with_reducible rfl
                (try simp only [Act.put, List.setIfInBounds_toArray, List.set_cons_zero, List.set_cons_succ])
                refine tk (i := 3) (d := (some 70)) (v := ?_) rfl rfl (by kernel_rfl) (by kernel_rfl) (by kernel_rfl) (fun _ _ _ h => h) (Or.inl ⟨by rfl, ?_⟩) hHeld ?_
                rotate_left
                · intro w hSw; have zc0 := keepc hSw c0; have zc1 := keepc hSw c1; have zc2 := keepc hSw c2; clear hSw; go_simp <;> with_reducible rfl
                (try simp only [Act.put, List.setIfInBounds_toArray, List.set_cons_zero, List.set_cons_succ])
                refine tk (i := 4) (d := (some 71)) (v := undef) rfl rfl (by kernel_rfl) (by kernel_rfl) (by kernel_rfl) (fun _ _ _ h => h) (Or.inr ⟨by kernel_rfl, rfl⟩) hHeld ?_
                (try simp only [Act.put, List.setIfInBounds_toArray, List.set_cons_zero, List.set_cons_succ])
                refine tk (i := 5) (d := (some 72)) (v := undef) rfl rfl (by kernel_rfl) (by kernel_rfl) (by kernel_rfl) (fun _ _ _ h => h) (Or.inr ⟨by kernel_rfl, rfl⟩) hHeld ?_
                (try simp only [Act.put, List.setIfInBounds_toArray, List.set_cons_zero, List.set_cons_succ])
                refine tk (i := 6) (d := (some 73)) (v := undef) rfl rfl (by kernel_rfl) (by kernel_rfl) (by kernel_rfl) (fun _ _ _ h => h) (Or.inr ⟨by kernel_rfl, rfl⟩) hHeld ?_
                (try simp only [Act.put, List.setIfInBounds_toArray, List.set_cons_zero, List.set_cons_succ])
                refine tk (i := 7) (d := (some 74)) (v := undef) rfl rfl (by kernel_rfl) (by kernel_rfl) (by kernel_rfl) (fun _ _ _ h => h) (Or.inr ⟨by kernel_rfl, rfl⟩) hHeld ?_
                (try simp only [Act.put, List.setIfInBounds_toArray, List.set_cons_zero, List.set_cons_succ])
                refine tk (i := 8) (d := (some 75)) (v := undef) rfl rfl (by kernel_rfl) (by kernel_rfl) (by kernel_rfl) (fun _ _ _ h => h) (Or.inr ⟨by kernel_rfl, rfl⟩) hHeld ?_
                (try simp only [Act.put, List.setIfInBounds_toArray, List.set_cons_zero, List.set_cons_succ])
                refine tk (i := 9) (d := (some 76)) (v := undef) rfl rfl (by kernel_rfl) (by kernel_rfl) (by kernel_rfl) (fun _ _ _ h => h) (Or.inr ⟨by kernel_rfl, rfl⟩) hHeld ?_
                (try simp only [Act.put, List.setIfInBounds_toArray, List.set_cons_zero, List.set_cons_succ])
                refine tk (i := 10) (d := (some 77)) (v := ?_) rfl rfl (by kernel_rfl) (by kernel_rfl) (by kernel_rfl) (fun _ _ _ h => h) (Or.inl ⟨by rfl, ?_⟩) hHeld ?_
                rotate_left
                · intro w hSw; have zc0 := keepc hSw c0; have zc1 := keepc hSw c1; have zc2 := keepc hSw c2; clear hSw; go_simp <;> with_reducible rfl
                (try simp only [Act.put, List.setIfInBounds_toArray, List.set_cons_zero, List.set_cons_succ])
                refine wpAnyH_done (by kernel_rfl) ?_ _
                replace hb := chn hb hHeld; clear hHeld
                go_wp2
                go_roundw
                case rel => exact ⟨(k+1+1), by omega, by go_num, ASK.out HUQ.out (fun h => (by exfalso; omega)), by repeat (first | exact hb | refine Below.alloc ?_ (by have := hb.size; simp; try omega) _)⟩
                case measure => simp [intOf]; omega
        · obtain rfl : r = false := HNO.out (fun h => by have := mless_at xs k f ⟨ep, ek, ex⟩ HFF.out h.2.1; rw [hle] at this; cases this)
          rcases hk1 with n1 | ⟨n1, q1⟩
          all_goals
            go_wp2_with fail
            refine (sPathOk_c ep true HP1 _ HZ1.out).mono ?_; rintro e W ⟨rfl, hq⟩; replace hb := chn hb hq; replace c0 := keepc hq c0; replace c1 := keepc hq c1; replace c2 := keepc hq c2; replace c3 := keepc hq c3; clear hq
            go_wp2_with fail
            refine (l2Data_c ex true HP2 _ HZ2.out).mono ?_; rintro e' W' ⟨rfl, rfl⟩
            go_wp2_with fail
            refine wp_region_held_drew (S := fun w' => Below _ _ w') (by kernel_rfl) (below_drew _) (fun hHeld => ?_)
            refine tk (i := 0) (d := (some 45)) (v := ?_) rfl rfl (by kernel_rfl) (by kernel_rfl) (by kernel_rfl) (fun _ _ _ h => h) (Or.inl ⟨by rfl, ?_⟩) hHeld ?_
            rotate_left
            · intro w hSw; have zc0 := keepc hSw c0; have zc1 := keepc hSw c1; have zc2 := keepc hSw c2; have zc3 := keepc hSw c3; clear hSw; go_simp <;> with_reducible rfl
            (try simp only [Act.put, List.setIfInBounds_toArray, List.set_cons_zero, List.set_cons_succ])
            refine tk (i := 1) (d := (some 46)) (v := ?_) rfl rfl (by kernel_rfl) (by kernel_rfl) (by kernel_rfl) (fun _ _ _ h => h) (Or.inl ⟨by rfl, ?_⟩) hHeld ?_
            rotate_left
            · intro w hSw; have zc0 := keepc hSw c0; have zc1 := keepc hSw c1; have zc2 := keepc hSw c2; have zc3 := keepc hSw c3; clear hSw; go_simp <;> with_reducible rfl
            (try simp only [Act.put, List.setIfInBounds_toArray, List.set_cons_zero, List.set_cons_succ])
            refine tk (i := 2) (d := (some 47)) (v := ?_) rfl rfl (by kernel_rfl) (by kernel_rfl) (by kernel_rfl) (fun _ _ _ h => h) (Or.inl ⟨by rfl, ?_⟩) hHeld ?_
            rotate_left
            · intro w hSw; have zc0 := keepc hSw c0; have zc1 := keepc hSw c1; have zc2 := keepc hSw c2; have zc3 := keepc hSw c3; clear hSw; go_simp <;> with_reducible rfl
            (try simp only [Act.put, List.setIfInBounds_toArray, List.set_cons_zero, List.set_cons_succ])
            refine tk (i := 3) (d := (some 48)) (v := ?_) rfl rfl (by kernel_rfl) (by kernel_rfl) (by kernel_rfl) (fun _ _ _ h => h) (Or.inl ⟨by rfl, ?_⟩) hHeld ?_
            rotate_left
            · intro w hSw; have zc0 := keepc hSw c0; have zc1 := keepc hSw c1; have zc2 := keepc hSw c2; have zc3 := keepc hSw c3; clear hSw; go_simp <;> with_reducible rfl
            (try simp only [Act.put, List.setIfInBounds_toArray, List.set_cons_zero, List.set_cons_succ])
            refine tk (i := 4) (d := (some 49)) (v := ?_) rfl rfl (by kernel_rfl) (by kernel_rfl) (by kernel_rfl) (fun _ _ _ h => h) (Or.inl ⟨by rfl, ?_⟩) hHeld ?_
            rotate_left
            · intro w hSw; have zc0 := keepc hSw c0; have zc1 := keepc hSw c1; have zc2 := keepc hSw c2; have zc3 := keepc hSw c3; clear hSw; go_simp <;> with_reducible rfl
            (try simp only [Act.put, List.setIfInBounds_toArray, List.set_cons_zero, List.set_cons_succ])
            refine tk (i := 5) (d := (some 50)) (v := ?_) rfl rfl (by kernel_rfl) (by kernel_rfl) (by kernel_rfl) (fun _ _ _ h => h) (Or.inl ⟨by rfl, ?_⟩) hHeld ?_
            rotate_left
            · intro w hSw; have zc0 := keepc hSw c0; have zc1 := keepc hSw c1; have zc2 := keepc hSw c2; have zc3 := keepc hSw c3; clear hSw; go_simp <;> with_reducible rfl
            (try simp only [Act.put, List.setIfInBounds_toArray, List.set_cons_zero, List.set_cons_succ])
            refine tk (i := 6) (d := (some 51)) (v := ?_) rfl rfl (by kernel_rfl) (by kernel_rfl) (by kernel_rfl) (fun _ _ _ h => h) (Or.inl ⟨by rfl, ?_⟩) hHeld ?_
            rotate_left
            · intro w hSw; have zc0 := keepc hSw c0; have zc1 := keepc hSw c1; have zc2 := keepc hSw c2; have zc3 := keepc hSw c3; clear hSw; go_simp <;> with_reducible rfl
            (try simp only [Act.put, List.setIfInBounds_toArray, List.set_cons_zero, List.set_cons_succ])
            refine tk (i := 7) (d := (some 52)) (v := ?_) rfl rfl (by kernel_rfl) (by kernel_rfl) (by kernel_rfl) (fun _ _ _ h => h) (Or.inl ⟨by rfl, ?_⟩) hHeld ?_
            rotate_left
            · intro w hSw; have zc0 := keepc hSw c0; have zc1 := keepc hSw c1; have zc2 := keepc hSw c2; have zc3 := keepc hSw c3; clear hSw; go_simp <;> with_reducible rfl
            (try simp only [Act.put, List.setIfInBounds_toArray, List.set_cons_zero, List.set_cons_succ])
            refine tk (i := 8) (d := (some 53)) (v := ?_) rfl rfl (by kernel_rfl) (by kernel_rfl) (by kernel_rfl) (fun _ _ _ h => h) (Or.inl ⟨by rfl, ?_⟩) hHeld ?_
            rotate_left
            · intro w hSw; have zc0 := keepc hSw c0; have zc1 := keepc hSw c1; have zc2 := keepc hSw c2; have zc3 := keepc hSw c3; clear hSw; go_simp <;> with_reducible rfl
            (try simp only [Act.put, List.setIfInBounds_toArray, List.set_cons_zero, List.set_cons_succ])
            refine tk (i := 9) (d := (some 54)) (v := ?_) rfl rfl (by kernel_rfl) (by kernel_rfl) (by kernel_rfl) (fun _ _ _ h => h) (Or.inl ⟨by rfl, ?_⟩) hHeld ?_
            rotate_left
            · intro w hSw; have zc0 := keepc hSw c0; have zc1 := keepc hSw c1; have zc2 := keepc hSw c2; have zc3 := keepc hSw c3; clear hSw; go_simp <;> with_reducible rfl
            (try simp only [Act.put, List.setIfInBounds_toArray, List.set_cons_zero, List.set_cons_succ])
            refine tk (i := 10) (d := (some 55)) (v := ?_) rfl rfl (by kernel_rfl) (by kernel_rfl) (by kernel_rfl) (fun _ _ _ h => h) (Or.inl ⟨by rfl, ?_⟩) hHeld ?_
            rotate_left
            · intro w hSw; have zc0 := keepc hSw c0; have zc1 := keepc hSw c1; have zc2 := keepc hSw c2; have zc3 := keepc hSw c3; clear hSw; go_simp <;> with_reducible rfl
            (try simp only [Act.put, List.setIfInBounds_toArray, List.set_cons_zero, List.set_cons_succ])
            refine tk (i := 11) (d := (some 56)) (v := ?_) rfl rfl (by kernel_rfl) (by kernel_rfl) (by kernel_rfl) (fun _ _ _ h => h) (Or.inl ⟨by rfl, ?_⟩) hHeld ?_
            rotate_left
            · intro w hSw; have zc0 := keepc hSw c0; have zc1 := keepc hSw c1; have zc2 := keepc hSw c2; have zc3 := keepc hSw c3; clear hSw; go_simp <;> with_reducible rfl
            (try simp only [Act.put, List.setIfInBounds_toArray, List.set_cons_zero, List.set_cons_succ])
            refine tk (i := 12) (d := (some 57)) (v := ?_) rfl rfl (by kernel_rfl) (by kernel_rfl) (by kernel_rfl) (fun _ _ _ h => h) (Or.inl ⟨by rfl, ?_⟩) hHeld ?_
            rotate_left
            · intro w hSw; have zc0 := keepc hSw c0; have zc1 := keepc hSw c1; have zc2 := keepc hSw c2; have zc3 := keepc hSw c3; clear hSw; go_simp <;> with_reducible rfl
            (try simp only [Act.put, List.setIfInBounds_toArray, List.set_cons_zero, List.set_cons_succ])
            refine tk (i := 13) (d := (some 58)) (v := ?_) rfl rfl (by kernel_rfl) (by kernel_rfl) (by kernel_rfl) (fun _ _ _ h => h) (Or.inl ⟨by rfl, ?_⟩) hHeld ?_
            rotate_left
            · intro w hSw; have zc0 := keepc hSw c0; have zc1 := keepc hSw c1; have zc2 := keepc hSw c2; have zc3 := keepc hSw c3; clear hSw; go_simp <;> with_reducible rfl
            (try simp only [Act.put, List.setIfInBounds_toArray, List.set_cons_zero, List.set_cons_succ])
            refine tk (i := 14) (d := (some 59)) (v := undef) rfl rfl (by kernel_rfl) (by kernel_rfl) (by kernel_rfl) (fun _ _ _ h => h) (Or.inr ⟨by kernel_rfl, rfl⟩) hHeld ?_
            (try simp only [Act.put, List.setIfInBounds_toArray, List.set_cons_zero, List.set_cons_succ])
            refine tk (i := 15) (d := (some 60)) (v := undef) rfl rfl (by kernel_rfl) (by kernel_rfl) (by kernel_rfl) (fun _ _ _ h => h) (Or.inr ⟨by kernel_rfl, rfl⟩) hHeld ?_
            (try simp only [Act.put, List.setIfInBounds_toArray, List.set_cons_zero, List.set_cons_succ])
            refine tk (i := 16) (d := (some 61)) (v := undef) rfl rfl (by kernel_rfl) (by kernel_rfl) (by kernel_rfl) (fun _ _ _ h => h) (Or.inr ⟨by kernel_rfl, rfl⟩) hHeld ?_
            (try simp only [Act.put, List.setIfInBounds_toArray, List.set_cons_zero, List.set_cons_succ])
            refine tk (i := 17) (d := (some 62)) (v := undef) rfl rfl (by kernel_rfl) (by kernel_rfl) (by kernel_rfl) (fun _ _ _ h => h) (Or.inr ⟨by kernel_rfl, rfl⟩) hHeld ?_
            (try simp only [Act.put, List.setIfInBounds_toArray, List.set_cons_zero, List.set_cons_succ])
            refine tk (i := 18) (d := (some 63)) (v := undef) rfl rfl (by kernel_rfl) (by kernel_rfl) (by kernel_rfl) (fun _ _ _ h => h) (Or.inr ⟨by kernel_rfl, rfl⟩) hHeld ?_
            (try simp only [Act.put, List.setIfInBounds_toArray, List.set_cons_zero, List.set_cons_succ])
            refine tk (i := 19) (d := (some 64)) (v := undef) rfl rfl (by kernel_rfl) (by kernel_rfl) (by kernel_rfl) (fun _ _ _ h => h) (Or.inr ⟨by kernel_rfl, rfl⟩) hHeld ?_
            (try simp only [Act.put, List.setIfInBounds_toArray, List.set_cons_zero, List.set_cons_succ])
            refine tk (i := 20) (d := (some 65)) (v := undef) rfl rfl (by kernel_rfl) (by kernel_rfl) (by kernel_rfl) (fun _ _ _ h => h) (Or.inr ⟨by kernel_rfl, rfl⟩) hHeld ?_
            (try simp only [Act.put, List.setIfInBounds_toArray, List.set_cons_zero, List.set_cons_succ])
            refine tk (i := 21) (d := (some 66)) (v := ?_) rfl rfl (by kernel_rfl) (by kernel_rfl) (by kernel_rfl) (fun _ _ _ h => h) (Or.inl ⟨by rfl, ?_⟩) hHeld ?_
            rotate_left
            · intro w hSw; have zc0 := keepc hSw c0; have zc1 := keepc hSw c1; have zc2 := keepc hSw c2; have zc3 := keepc hSw c3; clear hSw; go_simp <;> with_reducible rfl
            (try simp only [Act.put, List.setIfInBounds_toArray, List.set_cons_zero, List.set_cons_succ])
            refine wpAnyH_done (by kernel_rfl) ?_ _
            replace hb := chn hb hHeld; clear hHeld
            go_wp2
            go_ret
            exact ⟨rfl, by repeat (first | exact hb | refine Below.alloc ?_ (by have := hb.size; simp; try omega) _)⟩
    · have HFIN : Hid (n ≤ 32 → r = true) := fun h => hR.out.2 ⟨h, fun j e he => HA.out j e (by have := (List.getElem?_eq_some_iff.1 he).1; rw [HN.out] at this; omega) he⟩
      by_cases h32 : n ≤ 32
      · obtain rfl : r = true := HFIN.out h32
        go_wp2
        go_ret
        exact ⟨ret_bool (by simp; try omega), hb⟩
      · obtain rfl : r = false := by
          cases r
          · rfl
          · have := (hR.out.1 rfl).1; omega
        go_wp2
        go_ret
        exact ⟨ret_bool (by simp; try omega), hb⟩
end Go.Proofs.YtnmjidjhloodbaaDoor
namespace Go.Proofs.YtnmjidjhloodbaaDoor
open Go.RowKit
set_option maxRecDepth 100000 in
set_option maxHeartbeats 8000000 in
theorem sLayerJoin_c (a a' : Option Addr) (c c' : Nat) (xs ys : List Mk) (w : World) (hs : SlF Mk.cells w a xs) (hs' : SlF Mk.cells w a' ys) (hx : xs.length ≤ maxLen) (hy : ys.length ≤ maxLen) (hc : xs.length ≤ c) (hc' : ys.length ≤ c') (hz : ∀ e ∈ xs, e.p.size ≤ 2000000 ∧ e.x.size ≤ 2000000) (hz' : ∀ e ∈ ys, e.p.size ≤ 2000000 ∧ e.x.size ≤ 2000000) :
    Calls Tryd.prog 6 #[.slice a xs.length c, .slice a' ys.length c'] w (MadeMb (ljoinL (xs.map Mk.pl) (ys.map Mk.pl)) (ljoinB (xs.map Mk.pl) (ys.map Mk.pl)) w) := by
  have hb := Below.refl w.heap.size w
  obtain ⟨r, hr⟩ := lok_dec xs
  obtain ⟨r', hr'⟩ := lok_dec ys
  have HT := Lib.hid (sLayerOk_c a c xs r (Lib.hid hr) w hs hx hc hz)
  have HT' := Lib.hid (fun W (h : SlF Mk.cells W a' ys) => sLayerOk_c a' c' ys r' (Lib.hid hr') W h hy hc' hz')
  obtain ⟨L, hL⟩ : ∃ L, ljoinL (xs.map Mk.pl) (ys.map Mk.pl) = L := ⟨_, rfl⟩
  obtain ⟨B, hB⟩ : ∃ B, ljoinB (xs.map Mk.pl) (ys.map Mk.pl) = B := ⟨_, rfl⟩
  have hbd : ¬ (r = true ∧ r' = true) → B = false := fun h => by rw [← hB]; exact ljoin_bad fun h' => h ⟨hr.2 h'.1, hr'.2 h'.2⟩
  have HBD := Lib.hid hbd
  have HLD : Hid (¬ (r = true ∧ r' = true) → [] = L) := fun h => by rw [← hL]; unfold ljoinL; rw [hB, hbd h]; rfl
  rw [hL, hB]
  have HR := Lib.hid hr
  have HR' := Lib.hid hr'
  have HS := Lib.hid hs
  have HS' := Lib.hid hs'
  have HLL := Lib.hid hL
  have HBB := Lib.hid hB
  have HZ := Lib.hid hz
  have HZ' := Lib.hid hz'
  clear hr hr' hs hs' hL hB hbd hz hz' hc hc'
  cases r with
  | false =>
    go_enter Tryd.func6, Tryd.ntmps6
    go_wp2_with fail
    refine HT.out.mono ?_; rintro e WS ⟨rfl, hq⟩; replace hb := chn hb hq; clear hq
    go_wp2
    refine bodyPost_ret (v := .tuple #[.slice (some ⟨WS.heap.size, 0, none⟩) 0 0, .bool false]) (by simp [results, Tryd.results6, go_sem]) rfl ⟨some ⟨WS.heap.size, 0, none⟩, 0, [], by rw [HBD.out (by simp)]; rfl, HLD.out (by simp), World.ownsRow_lit _ #[] 0 hb.size (Nat.zero_le _) rfl, hb.alloc hb.size _⟩
  | true =>
  cases r' with
  | false =>
    go_enter Tryd.func6, Tryd.ntmps6
    go_wp2_with fail
    refine (HT.out).mono ?_; rintro e W ⟨rfl, hq⟩; replace hb := chn hb hq; clear hq
    go_wp2_with fail
    refine (HT'.out _ (HS'.out.below hb)).mono ?_; rintro e WS ⟨rfl, hq⟩; replace hb := chn hb hq; clear hq
    go_wp2
    refine bodyPost_ret (v := .tuple #[.slice (some ⟨WS.heap.size, 0, none⟩) 0 0, .bool false]) (by simp [results, Tryd.results6, go_sem]) rfl ⟨some ⟨WS.heap.size, 0, none⟩, 0, [], by rw [HBD.out (by simp)]; rfl, HLD.out (by simp), World.ownsRow_lit _ #[] 0 hb.size (Nat.zero_le _) rfl, hb.alloc hb.size _⟩
  | true =>
    have HLX := Lib.hid (HR.out.1 rfl)
    have HLY := Lib.hid (HR'.out.1 rfl)
    have hx32 : xs.length ≤ 32 := by have := HLX.out.most; rw [List.length_map] at this; exact this
    have hy32 : ys.length ≤ 32 := by have := HLY.out.most; rw [List.length_map] at this; exact this
    have hp : ∀ e ∈ xs, pathOkL e.p.data.toList = true := fun e he => HLX.out.pth (m := e.pl) (List.mem_map_of_mem he)
    have hp' : ∀ e ∈ ys, pathOkL e.p.data.toList = true := fun e he => HLY.out.pth (m := e.pl) (List.mem_map_of_mem he)
    have hk : ∀ m ∈ xs, m.k ≠ 0 := fun e he => by have := (markOk_kind (HLX.out.mks e.pl (List.mem_map_of_mem he))).1; show e.pl.k ≠ 0; omega
    have hk' : ∀ m ∈ ys, m.k ≠ 0 := fun e he => by have := (markOk_kind (HLY.out.mks e.pl (List.mem_map_of_mem he))).1; show e.pl.k ≠ 0; omega
    have HJ := Lib.hid (fun W (h : SlF Mk.cells W a xs) (h' : SlF Mk.cells W a' ys) => l3Join_c a a' c c' xs ys W h h' hx32 hy32 HZ.out HZ'.out hp hp' hk hk')
    have HMEM := Lib.hid (join_mem HLX.out HLY.out)
    have HPTH := Lib.hid (join_path_ HLX.out HLY.out)
    have HUB := Lib.hid (bound_join (bound_pl HZ.out) (bound_pl HZ'.out))
    have HLEN : Hid (((joinRaw (xs.map Mk.pl) (ys.map Mk.pl)).foldl (putP PM.p) []).length ≤ 64) := by
      have h1 := len_join (xs.map Mk.pl) (ys.map Mk.pl)
      have h2 := fold_len_le (f := PM.p) (joinRaw (xs.map Mk.pl) (ys.map Mk.pl)) []
      rw [List.length_map, List.length_map] at h1
      simp only [List.length_nil] at h2
      rw [Hid]; omega
    have HLYD : Hid (tidyL [] ((joinRaw (xs.map Mk.pl) (ys.map Mk.pl)).foldl (putP PM.p) []) = joinLy (xs.map Mk.pl) (ys.map Mk.pl)) := rfl
    clear hp hp' hk hk' hx32 hy32
    go_enter Tryd.func6, Tryd.ntmps6
    go_wp2_with fail
    refine (HT.out).mono ?_; rintro e W ⟨rfl, hq⟩; replace hb := chn hb hq; clear hq
    go_wp2_with fail
    refine (HT'.out _ (HS'.out.below hb)).mono ?_; rintro e W ⟨rfl, hq⟩; replace hb := chn hb hq; clear hq
    go_wp2_with fail
    refine (HJ.out _ (HS.out.below hb) (HS'.out.below hb)).mono ?_; rintro e W1 ⟨v, zs, rfl, hzs, ⟨b, off, cz, rfl, _, _, _, hsz⟩, hq⟩
    replace hb := chn hb hq
    have hz64 : zs.length ≤ 64 := by rw [← List.length_map (f := Mk.pl), hzs]; exact HLEN.out
    have hzb : ∀ e ∈ zs, e.p.size ≤ 2000000 ∧ e.x.size ≤ 2000000 := bound_of hzs fun m hm => HUB.out m ((HMEM.out m).1 hm)
    have hzp : ∀ e ∈ zs, pathOkL e.p.data.toList = true := fun e he => HPTH.out e.pl ((HMEM.out e.pl).1 (by rw [← hzs]; exact List.mem_map_of_mem he))
    have HTD := Lib.hid (l3Tidy_c (some ⟨b, off, none⟩) cz zs W1 hsz hz64 hzb hzp)
    rw [hzs, HLYD.out] at HTD
    have HB1 := Lib.hid hb.size
    obtain ⟨n, hn⟩ : ∃ n, zs.length = n := ⟨_, rfl⟩
    rw [hn] at HTD ⊢
    clear hz64 hzb hzp hsz hzs hq hn
    go_wp2_with fail
    refine HTD.out.mono ?_; rintro e W2 ⟨a2, c2, ms, rfl, hms, hown, hq⟩
    replace hb := chn hb hq
    have HML : Hid (ms.length = (joinLy (xs.map Mk.pl) (ys.map Mk.pl)).length) := by rw [Hid, ← hms, List.length_map]
    have HBE : Hid (decide (ms.length ≤ 32) = B) := by rw [Hid, ← HBB.out, ljoin_ok HLX.out HLY.out, HML.out]
    have HMS := Lib.hid hms
    clear hms hq
    by_cases h32 : 32 < ms.length
    · have hg : (32 : Int) < (ms.length : Int) := by omega
      obtain rfl : B = false := by rw [← HBE.out, decide_eq_false_iff_not]; omega
      have HL0 : Hid ([] = L) := by rw [Hid, ← HLL.out]; unfold ljoinL; rw [HBB.out]; rfl
      go_wp2
      refine bodyPost_ret (v := .tuple #[.slice (some ⟨W2.heap.size, 0, none⟩) 0 0, .bool false]) (by simp [results, Tryd.results6, go_sem]) rfl ⟨some ⟨W2.heap.size, 0, none⟩, 0, [], rfl, HL0.out, World.ownsRow_lit _ #[] 0 hb.size (Nat.zero_le _) rfl, hb.alloc hb.size _⟩
    · have hg : decide ((32 : Int) < (ms.length : Int)) = false := by rw [decide_eq_false_iff_not]; omega
      obtain rfl : B = true := by rw [← HBE.out, decide_eq_true_iff]; omega
      have HL1 : Hid (joinLy (xs.map Mk.pl) (ys.map Mk.pl) = L) := by rw [Hid, ← HLL.out]; unfold ljoinL; rw [HBB.out]; rfl
      go_wp2
      refine bodyPost_ret (v := .tuple #[.slice a2 ms.length c2, .bool true]) (by simp [results, Tryd.results6, go_sem]) rfl ⟨a2, c2, ms, rfl, HMS.out.trans HL1.out, own_mono hown HB1.out, hb⟩
end Go.Proofs.YtnmjidjhloodbaaDoor
namespace Go.Proofs.YtnmjidjhloodbaaDoor
open Go.RowKit
theorem exactLayerJoin_w_len (a b : List PM) : (ljoinL a b).length ≤ 32 := by
  unfold ljoinL
  split
  · next h =>
      have h2 : LOk a ∧ LOk b ∧ (joinLy a b).length ≤ 32 := by simpa [ljoinB] using h
      exact h2.2.2
  · simp
set_option maxRecDepth 100000 in
set_option maxHeartbeats 16000000 in
theorem exactLayerJoin_w (a a' : Option Addr) (c c' : Nat) (xs : List Mk) (ys : List Mk) (w : World) (hs : SlF Mk.cells w a xs) (hs' : SlF Mk.cells w a' ys) (hx : xs.length ≤ maxLen) (hy : ys.length ≤ maxLen)
    (hz : ∀ e ∈ xs, e.p.size ≤ maxLen ∧ e.x.size ≤ maxLen) (hz' : ∀ e ∈ ys, e.p.size ≤ maxLen ∧ e.x.size ≤ maxLen) :
    Calls Tryd.prog 3 #[.slice a xs.length c, .slice a' ys.length c'] w (TrueS w) := by
  have hb := Below.refl w.heap.size w
  by_cases h1 : 1048576 < (xs.length : Int) + sumW mkW xs
  · have H := Lib.hid (szMarkS_no a c xs 1048576 (by omega) (by omega) h1 w hs hx hz)
    obtain ⟨n, hn⟩ : ∃ n, xs.length = n := ⟨_, rfl⟩
    obtain ⟨n', hn'⟩ : ∃ n, ys.length = n := ⟨_, rfl⟩
    rw [hn] at H ⊢
    rw [hn']
    clear hn hn' hs hs' hx hy hz hz' h1
    go_enter Tryd.func3, Tryd.ntmps3
    go_wp2_with fail
    refine (H.out).mono ?_; rintro e W ⟨rfl, hq⟩; replace hb := chn hb hq; clear hq
    go_wp2
    go_ret
    exact ⟨rfl, hb⟩
  have hl1 : (xs.length : Int) + sumW mkW xs ≤ 1048576 := by omega
  have H1 := Lib.hid (szMarkS_yes a c xs 1048576 (by omega) hl1 w hs)
  obtain ⟨l2, hl2⟩ : ∃ l2 : Int, (1048576 : Int) - xs.length - sumW mkW xs = l2 := ⟨_, rfl⟩
  rw [hl2] at H1
  have hl20 : 0 ≤ l2 := by omega
  have hl21 : l2 ≤ 1048576 := by omega
  by_cases h2 : l2 < (ys.length : Int) + sumW mkW ys
  · have H2 := fun W (h : SlF Mk.cells W a' ys) => Lib.hid (szMarkS_no a' c' ys l2 (by omega) (by omega) h2 W h hy hz')
    have HS' := Lib.hid hs'
    obtain ⟨n, hn⟩ : ∃ n, xs.length = n := ⟨_, rfl⟩
    obtain ⟨n', hn'⟩ : ∃ n, ys.length = n := ⟨_, rfl⟩
    rw [hn] at H1 ⊢
    rw [hn'] at H2 ⊢
    have HH2 := Lib.hid H2
    clear hn hn' hs hs' hx hy hz hz' h1 h2 hl1 hl2 H2
    go_enter Tryd.func3, Tryd.ntmps3
    go_wp2_with fail
    refine (H1.out).mono ?_; rintro e W ⟨rfl, hq⟩; replace hb := chn hb hq; clear hq
    go_wp2_with fail
    refine ((HH2.out _ (HS'.out.below hb)).out).mono ?_; rintro e W ⟨rfl, hq⟩; replace hb := chn hb hq; clear hq
    go_wp2
    go_ret
    exact ⟨rfl, hb⟩
  have hl3 : (ys.length : Int) + sumW mkW ys ≤ l2 := by omega
  have H2 := fun W (h : SlF Mk.cells W a' ys) => Lib.hid (szMarkS_yes a' c' ys l2 (by omega) hl3 W h)
  obtain ⟨l4, hl4⟩ : ∃ l4 : Int, l2 - ys.length - sumW mkW ys = l4 := ⟨_, rfl⟩
  rw [hl4] at H2
  have hl40 : 0 ≤ l4 := by omega
  have hxn : xs.length ≤ 1048576 := by omega
  have hyn : ys.length ≤ 1048576 := by omega
  have hZ := mk_low hl1
  have hZ' := mk_low (xs := ys) (by omega)
  obtain ⟨L, hL⟩ : ∃ L, ljoinL (xs.map Mk.pl) (ys.map Mk.pl) = L := ⟨_, rfl⟩
  obtain ⟨B, hB⟩ : ∃ B, ljoinB (xs.map Mk.pl) (ys.map Mk.pl) = B := ⟨_, rfl⟩
  have hll : L.length ≤ 32 := by rw [← hL]; exact exactLayerJoin_w_len _ _
  have hT := fun W (h : SlF Mk.cells W a xs) => Lib.hid (toMarkS_d a c xs W h (by omega))
  have hT' := fun W (h : SlF Mk.cells W a' ys) => Lib.hid (toMarkS_d a' c' ys W h (by omega))
  have hSs := fun W b0 b1 (h : SlF Mk.cells W (some ⟨b0, 0, none⟩) xs) (h' : SlF Mk.cells W (some ⟨b1, 0, none⟩) ys) (hb0 : b0 < W.heap.size) => Lib.hid (sLayerJoin_c (some ⟨b0, 0, none⟩) (some ⟨b1, 0, none⟩) xs.length ys.length xs ys W h h' hx hy (Nat.le_refl _) (Nat.le_refl _) hZ hZ')
  have hSi := fun W a a' c c' (h : SlF Mk.cells W a xs) (h' : SlF Mk.cells W a' ys) => Lib.hid (layerJoin_c a a' c c' xs ys W h h' hx hy hZ hZ')
  have hE := fun W a a' c c' (h : SlF Mk.cells W a xs) (h' : SlF Mk.cells W a' xs) => Lib.hid (eqMarkS_c a a' c c' xs xs true (Lib.hid ⟨fun _ => rfl, fun _ => rfl⟩) W h h' hx hx)
  have hE' := fun W a a' c c' (h : SlF Mk.cells W a ys) (h' : SlF Mk.cells W a' ys) => Lib.hid (eqMarkS_c a a' c c' ys ys true (Lib.hid ⟨fun _ => rfl, fun _ => rfl⟩) W h h' hy hy)
  obtain ⟨n, hn⟩ : ∃ n, xs.length = n := ⟨_, rfl⟩
  obtain ⟨n', hn'⟩ : ∃ n, ys.length = n := ⟨_, rfl⟩
  rw [hL, hB] at hSs hSi
  rw [hn] at H1 hT hSs hSi hE hxn ⊢
  rw [hn'] at H2 hT' hSs hSi hE' hyn ⊢
  have G2 := Lib.hid H2
  have GT := Lib.hid hT
  have GT' := Lib.hid hT'
  have GS := Lib.hid hSs
  have GI := Lib.hid hSi
  have GE := Lib.hid hE
  have GE' := Lib.hid hE'
  have HS := Lib.hid hs
  have HS' := Lib.hid hs'
  have HLL := Lib.hid hll
  have HQS := fun (a a' : Option Addr) (c c' n : Nat) (ss : List Mk) (hn : ss.length = n) (hx : n ≤ 2000000) => Lib.hid (fun (W : World) (h : SlF Mk.cells W a ss) (h' : SlF Mk.cells W a' ss) => eqMarkS_n a a' c c' n ss hn W h h' hx)
  have GQS := Lib.hid HQS
  clear hn hn' hx hy hz hz' hZ hZ' h1 h2 hl1 hl2 hl3 hl4 H2 hT hT' hSs hSi hE hE' hs hs' hL hB hll HQS
  go_enter Tryd.func3, Tryd.ntmps3
  go_wp2_with fail
  refine (H1.out).mono ?_; rintro e W ⟨rfl, hq⟩; replace hb := chn hb hq; clear hq
  go_wp2_with fail
  refine ((G2.out _ (HS'.out.below hb)).out).mono ?_; rintro e W ⟨rfl, hq⟩; replace hb := chn hb hq; clear hq
  go_wp2_with fail
  refine (GT.out _ (HS.out.below hb)).out.mono ?_; rintro e W ⟨rfl, oy, y0, hq⟩; replace hb := chn hb hq
  have hlt := lt_of_own oy
  clear oy hq
  go_wp2_with fail
  refine (GT'.out _ (HS'.out.below hb)).out.mono ?_; rintro e W ⟨rfl, _, y1, hq⟩; replace hb := chn hb hq; replace y0 := SlF.below y0 hq
  have HLT := Lib.hid (Nat.lt_of_lt_of_le hlt hq.size)
  clear hq hlt
  go_wp2_with fail
  refine (GS.out _ _ _ y0 y1 HLT.out).out.mono ?_
  rintro e W1 ⟨av, cs, ss, rfl, hss, oS, hq⟩
  replace hb := chn hb hq
  have HSS := Lib.hid hss
  have hpl : ss.length ≤ 32 := by have := congrArg List.length hss; rw [List.length_map] at this; rw [this]; exact HLL.out
  obtain ⟨p, hp⟩ : ∃ p, ss.length = p := ⟨_, rfl⟩
  unfold OwnMk at oS
  rw [hp] at oS hpl ⊢
  have HP := Lib.hid hp
  have LS := Lib.hid (lt_own oS)
  have HB1 := Lib.hid hb.size
  clear y0 y1 hq hss hp HLT
  go_wp2_with fail
  refine (GT.out _ (HS.out.below hb)).out.mono ?_; rintro e W2 ⟨rfl, oX, sX, hq⟩; replace hb := chn hb hq; replace oS := own_below oS hq
  have HX := Lib.hid (lt_of_own oX)
  have HX1 := Lib.hid hq.size
  clear hq
  go_wp2_with fail
  refine (GT'.out _ (HS'.out.below hb)).out.mono ?_; rintro e W3 ⟨rfl, oY, sY, hq⟩; replace hb := chn hb hq; replace oS := own_below oS hq; replace oX := own_below oX hq; replace sX := SlF.below sX hq
  have HY := Lib.hid (lt_of_own oY)
  clear hq
  go_wp2_with fail
  refine (GI.out _ _ _ _ _ sX sY).out.mono ?_
  rintro e W4 ⟨ag, cg, sg, rfl, hsg, oG, hq⟩
  obtain rfl : sg = ss := map_inj_ Mk.pl_inj (hsg.trans HSS.out.symm)
  replace hb := chn hb hq; replace oS := own_below oS hq; replace oX := own_below oX hq; replace oY := own_below oY hq; replace sX := SlF.below sX hq; replace sY := SlF.below sY hq
  unfold OwnMk at oG
  rw [HP.out] at oG ⊢
  have LG := Lib.hid (le_own oG)
  clear hsg hq
  go_wp2_with fail
  refine ((GQS.out ag av cg cs p sg HP.out (by omega)).out _ (own_slfN (fun _ => rfl) oG HP.out) (own_slfN (fun _ => rfl) oS HP.out)).mono ?_; rintro e W ⟨rfl, hq⟩; replace hb := chn hb hq; replace sX := SlF.below sX hq; replace sY := SlF.below sY hq; replace oS := own_below oS hq; replace oX := own_below oX hq; replace oY := own_below oY hq; replace oG := own_below oG hq; clear hq
  go_wp2_with fail
  refine (GT.out _ (HS.out.below hb)).out.mono ?_; rintro e W ⟨rfl, _, z0, hq⟩; replace hb := chn hb hq; replace oS := own_below oS hq; replace oX := own_below oX hq; replace oY := own_below oY hq; replace oG := own_below oG hq; replace sX := SlF.below sX hq; replace sY := SlF.below sY hq; clear hq
  go_wp2_with fail
  refine ((GE.out _ _ _ _ _ sX z0).out).mono ?_; rintro e W ⟨rfl, hq⟩; replace hb := chn hb hq; replace sY := SlF.below sY hq; replace oS := own_below oS hq; replace oX := own_below oX hq; replace oY := own_below oY hq; replace oG := own_below oG hq; clear hq
  clear sX z0
  go_wp2_with fail
  refine (GT'.out _ (HS'.out.below hb)).out.mono ?_; rintro e W ⟨rfl, _, z0, hq⟩; replace hb := chn hb hq; replace oS := own_below oS hq; replace oX := own_below oX hq; replace oY := own_below oY hq; replace oG := own_below oG hq; replace sY := SlF.below sY hq; clear hq
  go_wp2_with fail
  refine ((GE'.out _ _ _ _ _ sY z0).out).mono ?_; rintro e W ⟨rfl, hq⟩; replace hb := chn hb hq; replace oS := own_below oS hq; replace oX := own_below oX hq; replace oY := own_below oY hq; replace oG := own_below oG hq; clear hq
  clear sY z0
  go_wp2_with fail
  refine (markMarkS_c W1.heap.size (some ⟨W1.heap.size, 0, none⟩) n n 1 _ _ oX (by omega) (by decide) (by decide)).mono ?_
  rintro e W5 ⟨rfl, _, hg⟩
  replace hb := below_grown hb hb.size hg (fun k hk => by injection hk with hk; rw [← hk]; exact HB1.out)
  replace oS := kept_lt oS hg LS.out
  replace oY := kept_gt oY hg (fun k hk => by injection hk with hk; rw [← hk]; exact HX.out)
  replace oG := kept_gt oG hg (fun k hk => Nat.lt_of_lt_of_le (Nat.lt_trans HX.out HY.out) (LG.out k hk))
  clear hg oX
  have HM2 := Lib.hid (markMarkS_c W2.heap.size (some ⟨W2.heap.size, 0, none⟩) n' n' (1 + 3 * n) _ _ oY (by omega) (by omega) (by omega))
  rw [show ((1 + 3 * n : Nat) : Int) = 1 + 3 * (n : Int) by omega] at HM2
  go_wp2_with fail
  refine HM2.out.mono ?_
  rintro e W6 ⟨rfl, _, hg⟩
  replace hb := below_grown hb hb.size hg (fun k hk => by injection hk with hk; rw [← hk]; exact Nat.le_trans HB1.out HX1.out)
  replace oS := kept_lt oS hg (fun k hk => Nat.lt_trans (LS.out k hk) HX.out)
  replace oG := kept_gt oG hg (fun k hk => Nat.lt_of_lt_of_le HY.out (LG.out k hk))
  clear hg oY HM2
  go_wp2_with fail
  refine ((GQS.out ag av cg cs p sg HP.out (by omega)).out _ (own_slfN (fun _ => rfl) oG HP.out) (own_slfN (fun _ => rfl) oS HP.out)).mono ?_; rintro e W ⟨rfl, hq⟩; replace hb := chn hb hq; replace oS := own_below oS hq; replace oG := own_below oG hq; clear hq
  go_wp2_with fail
  refine (markMarkS_c W3.heap.size ag cg p 1 _ _ oG (by omega) (by decide) (by decide)).mono ?_
  rintro e W7 ⟨rfl, ⟨LM, oM, hM⟩, hg⟩
  replace hb := below_grown hb hb.size hg (fun k hk => Nat.le_trans HB1.out (Nat.le_trans (Nat.le_of_lt (Nat.lt_trans HX.out HY.out)) (LG.out k hk)))
  replace oS := kept_v oS hg LS.out (fun k hk => Nat.le_trans (Nat.le_of_lt (Nat.lt_trans HX.out HY.out)) (LG.out k hk))
  have HM := Lib.hid hM
  clear hg hM oG
  have HHS := Lib.hid (fun W (h : W.ownsRow W3.heap.size 45 3 (.slice ag p cg) p LM) => heldMarkS_c W3.heap.size ag cg p 1 LM W h HM.out (by omega) (by decide) (by decide))
  go_wp2_with fail
  refine (HHS.out _ oM).mono ?_; rintro e W ⟨rfl, hq⟩; replace hb := chn hb hq; replace oS := own_below oS hq; replace oM := own_below oM hq; clear hq
  go_wp2_with fail
  refine (GT.out _ (HS.out.below hb)).out.mono ?_; rintro e W ⟨rfl, _, z0, hq⟩; replace hb := chn hb hq; replace oS := own_below oS hq; replace oM := own_below oM hq; clear hq
  go_wp2_with fail
  refine (GT'.out _ (HS'.out.below hb)).out.mono ?_; rintro e W ⟨rfl, _, z1, hq⟩; replace hb := chn hb hq; replace oS := own_below oS hq; replace oM := own_below oM hq; replace z0 := SlF.below z0 hq; clear hq
  go_wp2_with fail
  refine (GI.out _ _ _ _ _ z0 z1).out.mono ?_
  rintro e W8 ⟨ah, ch, sh, rfl, hsh, oH, hq⟩
  obtain rfl : sh = sg := map_inj_ Mk.pl_inj (hsh.trans HSS.out.symm)
  unfold OwnMk at oH
  rw [HP.out] at oH ⊢
  replace hb := chn hb hq; replace oS := own_below oS hq; replace oM := own_below oM hq
  clear hsh hq z0 z1
  go_wp2_with fail
  refine ((GQS.out ah av ch cs p sh HP.out (by omega)).out _ (own_slfN (fun _ => rfl) oH HP.out) (own_slfN (fun _ => rfl) oS HP.out)).mono ?_; rintro e W ⟨rfl, hq⟩; replace hb := chn hb hq; replace oM := own_below oM hq; clear hq
  clear oS oH
  go_wp2_with fail
  refine (HHS.out _ oM).mono ?_; rintro e W ⟨rfl, hq⟩; replace hb := chn hb hq; clear hq
  go_wp2
  go_ret
  exact ⟨rfl, hb⟩
end Go.Proofs.YtnmjidjhloodbaaDoor
