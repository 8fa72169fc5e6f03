/- The walks of the reference's LayerOk, and of LayerHides of both. What draws layers: shapes and small laws; the walks of num, l3Layer. What draws layers: the walk of l3Bent. What draws layers: the walks of DrawLayerOk, DrawLayerSame, DrawLayerHides, DrawLayerOn, DrawLayerJoin. The walks of LayerHides, of the program and of the reference. What the laws of layers share: LayerOk, LayerHides, LayerSame as the laws meet them. The walks of what marks memory and looks whether the marks still stand; lists of texts held against one another. The walks of the reference's l2Turned and TreeTurned. Conditions: each theorem's own. -/
import Derived.Test.YtdhbdcmnbhjjaaaGreatDoorB6
import Derived.Test.YtdhbdcmnbhjjaaaGreatDoorB1
import Derived.Laws.OwnMore
import Derived.Test.YtdhbdcmnbhjjaaaGreatDoorB2
import Derived.Deep.QuietTactic
import Derived.BigQuiet
import Derived.Laws.BytesArg
import Derived.Test.YtdhbdcmnbhjjaaaGreatDoorB4
import Derived.Deep.Onto
namespace Go.Proofs.YtdhbdcmnbhjjaaaGreatDoor
open Go.RowKit
theorem upM_tk (xs : List Mk) (k : Nat) (q : Bs) : upM ((xs.map Mk.pl).take k) q = upM ((xs.take k).map Mk.pl) q := by rw [List.map_take]
/-- The marks so far are at paths. -/
theorem path_tk {xs : List Mk} {k : Nat} (h : ∀ (j : Nat) (e : Mk), j < k → xs[j]? = some e → MAskR xs j e) : ∀ m ∈ (xs.take k).map Mk.pl, pathOkL m.p = true := by
  intro m hm
  obtain ⟨e, he, rfl⟩ := List.mem_map.1 hm
  obtain ⟨j, hj⟩ := List.getElem?_of_mem he
  rw [List.getElem?_take] at hj
  split at hj
  · next hjk => exact markOk_path (h j e hjk hj).1
  · cases hj
set_option maxRecDepth 100000 in
set_option maxHeartbeats 8000000 in
theorem sLayerOk_c (a : Option Addr) (c : Nat) (xs : List Mk) (r : Bool) (hr : Hid (r = true ↔ LOk (xs.map Mk.pl))) (w : World) (hs : SlF Mk.cells w a xs) (hx : xs.length ≤ maxLen) (hc : xs.length ≤ c) (hz : ∀ e ∈ xs, e.p.size ≤ 2000000 ∧ e.x.size ≤ 2000000) :
    Calls Tryz.prog 17 #[.slice a xs.length c] w fun q w' => q = .returned (.bool r) ∧ Below w.heap.size w w' := by
  have hR : Hid (r = true ↔ xs.length ≤ 32 ∧ ∀ (k : Nat) (e : Mk), xs[k]? = some e → MAskR xs k e) := by rw [Hid, hr.out, lok_R]
  have HIN0 := fun (k : Nat) (hk : k ≤ xs.length) (q : ByteArray) (hq : q.size ≤ maxLen) (u : Bool) (hu : Hid (upM ((xs.take k).map Mk.pl) q.data.toList = u)) (W : World) (h : SlF Mk.cells W a xs) => Lib.hid ((by
      have h1 := l3In_c a c (xs.take k) q u hu W (h.take k) (by rw [List.length_take]; omega) hq
      rw [List.length_take, Nat.min_eq_left hk] at h1
      exact h1) : Calls Tryz.prog 52 #[.slice a k c, .string q] W fun e w' => e = .returned (.bool u) ∧ Below W.heap.size W w')
  have HBR0 := fun (k : Nat) (hk : k ≤ xs.length) (q : ByteArray) (hq : q.size ≤ 2000000) (u : Bool) (hu : Hid (((xs.take k).map Mk.pl).any (bareQ q.data.toList) = u)) (W : World) (h : SlF Mk.cells W a xs) => Lib.hid ((by
      have h1 := l3Bare_c a c (xs.take k) q u hu W (h.take k) (by rw [List.length_take]; omega) hq (fun e he => hz e (List.mem_of_mem_take he))
      rw [List.length_take, Nat.min_eq_left hk] at h1
      exact h1) : Calls Tryz.prog 53 #[.slice a k c, .string q] W fun e w' => e = .returned (.bool u) ∧ Below W.heap.size W w')
  have HZ := Lib.hid hz
  have HS := Lib.hid hs
  obtain ⟨n, hn⟩ : ∃ n, xs.length = n := ⟨_, rfl⟩
  have HN := Lib.hid hn
  rw [hn] at hR hx hc HIN0 HBR0 ⊢
  unfold maxLen at hx
  have GIN0 := Lib.hid HIN0
  have GBR0 := Lib.hid HBR0
  clear hn hz hs hr HIN0 HBR0
  have hno : Hid (∀ (k : Nat) (e : Mk), xs[k]? = some e → ¬ MAskR xs k e → r = false) := fun k e he hne => by
    cases r
    · rfl
    · exact absurd ((hR.out.1 rfl).2 k e he) hne
  go_enter Tryz.func17, Tryz.ntmps17
  go_wp2
  go_loopw [3, 4] (fun i _ wr => ∃ k : Nat, k ≤ n ∧ i = .int .i64 k ∧ (∀ (j : Nat) (e : Mk), j < k → xs[j]? = some e → MAskR xs j e) ∧ Below w.heap.size w wr) (fun i _ _ => n - (intOf i).toNat)
  case atStart => exact ⟨0, Nat.zero_le _, rfl, fun j _ h => absurd h (by omega), Below.refl _ _⟩
  case round =>
    obtain ⟨k, hk, rfl, hall, hb⟩ := hrel
    have HA := Lib.hid hall
    clear hall
    by_cases hlt : k < n
    · obtain ⟨e, hee⟩ : ∃ e, xs[k]? = some e := ⟨_, List.getElem?_eq_getElem (by rw [HN.out]; exact hlt)⟩
      have h2 := (HS.out.below hb)
      obtain ⟨b, off, rfl, _⟩ := h2.addr (by rw [HN.out]; omega)
      obtain ⟨d0, d1, d2⟩ := mk_at h2 k e hee
      have hzz := HZ.out e (List.mem_of_getElem? hee)
      have HNO := Lib.hid (fun h => hno.out k e hee h)
      have HEE := Lib.hid hee
      have h3 := h2
      clear h2 hee
      obtain ⟨ep, ek, ex⟩ := e
      have hz1 : ep.size ≤ maxLen := Nat.le_trans hzz.1 (by unfold maxLen; omega)
      have hz2 : ex.size ≤ maxLen := Nat.le_trans hzz.2 (by unfold maxLen; omega)
      have HZ1 := Lib.hid hz1
      have HZ2 := Lib.hid hz2
      have GIN := Lib.hid (fun u hu => GIN0.out k hk ep hz1 u hu)
      have GBR := Lib.hid (fun u hu => GBR0.out k hk ep hzz.1 u hu)
      have HRM : Hid (markOkL (Mk.pl ⟨ep, ek, ex⟩) = (decide (1 ≤ ek) && decide (ek ≤ 4) && pathOkL ep.data.toList && dataOkL ex.data.toList && (decide (ek = 1) || ex.data.toList == []))) := rfl
      clear hzz hz1 hz2
      have c0 := new_cell wr #[.string ep, .int .i64 ek, .string ex] 43 0 _ rfl
      have c1 := new_cell wr #[.string ep, .int .i64 ek, .string ex] 43 1 _ rfl
      have c2 := new_cell wr #[.string ep, .int .i64 ek, .string ex] 43 2 _ rfl
      replace hb := hb.alloc hb.size (.cells #[.string ep, .int .i64 ek, .string ex] 43)
      have HNM := Lib.hid (fun (h : markOkL (Mk.pl ⟨ep, ek, ex⟩) = false) => HNO.out (fun h' => by have := h'.1; rw [h] at this; cases this))
      by_cases klo : ek < 1
      · obtain rfl : r = false := HNM.out (by rw [HRM.out, decide_eq_false (p := 1 ≤ ek) (by omega)]; rfl)
        go_wp2
        go_ret
        exact ⟨rfl, by repeat (first | exact hb | refine Below.alloc ?_ (by have := hb.size; simp; try omega) _)⟩
      by_cases khi : 4 < ek
      · obtain rfl : r = false := HNM.out (by rw [HRM.out, decide_eq_false (p := ek ≤ 4) (by omega), Bool.and_false]; rfl)
        go_wp2
        go_ret
        exact ⟨rfl, by repeat (first | exact hb | refine Below.alloc ?_ (by have := hb.size; simp; try omega) _)⟩
      have h4 : decide (4 < ek) = false := by simp; omega
      have HRM2 : Hid (markOkL (Mk.pl ⟨ep, ek, ex⟩) = (pathOkL ep.data.toList && dataOkL ex.data.toList && (decide (ek = 1) || ex.data.toList == []))) := by rw [Hid, HRM.out, decide_eq_true (p := 1 ≤ ek) (by omega), decide_eq_true (p := ek ≤ 4) (by omega)]; rfl
      clear HRM
      obtain ⟨p1, hp1⟩ : ∃ x, pathOkL ep.data.toList = x := ⟨_, rfl⟩
      have HP1 := Lib.hid hp1
      clear hp1
      cases p1 with
      | false =>
        obtain rfl : r = false := HNM.out (by rw [HRM2.out, HP1.out]; rfl)
        go_wp2_with fail
        refine (sPathOk_c ep false HP1 _ HZ1.out).mono ?_; rintro e W ⟨rfl, hq⟩; replace hb := chn hb hq; replace c0 := keepc hq c0; replace c1 := keepc hq c1; replace c2 := keepc hq c2; clear hq
        go_wp2
        go_ret
        exact ⟨rfl, by repeat (first | exact hb | refine Below.alloc ?_ (by have := hb.size; simp; try omega) _)⟩
      | true =>
      obtain ⟨p2, hp2⟩ : ∃ x, dataOkL ex.data.toList = x := ⟨_, rfl⟩
      have HP2 := Lib.hid hp2
      clear hp2
      cases p2 with
      | false =>
        obtain rfl : r = false := HNM.out (by rw [HRM2.out, HP1.out, HP2.out]; rfl)
        go_wp2_with fail
        refine (sPathOk_c ep true HP1 _ HZ1.out).mono ?_; rintro e W ⟨rfl, hq⟩; replace hb := chn hb hq; replace c0 := keepc hq c0; replace c1 := keepc hq c1; replace c2 := keepc hq c2; clear hq
        go_wp2_with fail
        refine (l2Data_c ex false HP2 _ HZ2.out).mono ?_; rintro e' W' ⟨rfl, rfl⟩
        go_wp2
        go_ret
        exact ⟨rfl, by repeat (first | exact hb | refine Below.alloc ?_ (by have := hb.size; simp; try omega) _)⟩
      | true =>
      have HRM3 : Hid (markOkL (Mk.pl ⟨ep, ek, ex⟩) = (decide (ek = 1) || ex.data.toList == [])) := by rw [Hid, HRM2.out, HP1.out, HP2.out]; rfl
      clear HRM2
      by_cases hxx : ek ≠ 1 ∧ ex.data.toList ≠ []
      · obtain rfl : r = false := HNM.out (by rw [HRM3.out, beqE_no hxx.2, decide_eq_false hxx.1]; rfl)
        have n1 : (ek != 1) = true := by rw [bne_iff_ne]; exact hxx.1
        have q1 := isE_no hxx.2
        clear hxx
        go_wp2_with fail
        refine (sPathOk_c ep true HP1 _ HZ1.out).mono ?_; rintro e W ⟨rfl, hq⟩; replace hb := chn hb hq; replace c0 := keepc hq c0; replace c1 := keepc hq c1; replace c2 := keepc hq c2; clear hq
        go_wp2_with fail
        refine (l2Data_c ex true HP2 _ HZ2.out).mono ?_; rintro e' W' ⟨rfl, rfl⟩
        go_wp2
        go_ret
        exact ⟨rfl, by repeat (first | exact hb | refine Below.alloc ?_ (by have := hb.size; simp; try omega) _)⟩
      have HM1 : Hid (markOkL (Mk.pl ⟨ep, ek, ex⟩) = true) := by
        rw [Hid, HRM3.out, Bool.or_eq_true, decide_eq_true_eq, beq_iff_eq]
        by_cases h1 : ek = 1
        · exact .inl h1
        · exact .inr (Classical.byContradiction fun h => hxx ⟨h1, h⟩)
      have hk1 : (ek != 1) = false ∨ ((ek != 1) = true ∧ ex.toList.isEmpty = true) := by
        by_cases h1 : ek = 1
        · exact .inl (by simp [h1])
        · exact .inr ⟨by rw [bne_iff_ne]; exact h1, isE_yes (Classical.byContradiction fun h => hxx ⟨h1, h⟩)⟩
      obtain ⟨u, hu⟩ : ∃ u, upM ((xs.take k).map Mk.pl) ep.data.toList = u := ⟨_, rfl⟩
      obtain ⟨v, hv⟩ : ∃ v, ((xs.take k).map Mk.pl).any (bareQ ep.data.toList) = v := ⟨_, rfl⟩
      have HU := Lib.hid hu
      have HV := Lib.hid hv
      have HVB : Hid (bareL ((xs.map Mk.pl).take k) ep.data.toList = v) := by
        rw [Hid, ← List.map_take, ← bareQ_eq HP1.out (path_tk HA.out)]; exact hv
      clear hu hv hxx HRM3 HNM
      cases k with
      | zero =>
        rw [Nat.zero_mul, Nat.add_zero] at d0 d1 d2
        have ASK := Lib.hid (fun (h3 : upM ((xs.map Mk.pl).take 0) ep.data.toList = true) (h4 : 2 < ek → bareL ((xs.map Mk.pl).take 0) ep.data.toList = false) (j : Nat) (g : Mk) (hj : j < 0 + 1) (hg : xs[j]? = some g) => (by
          have ej : j = 0 := by omega
          subst ej
          rw [HEE.out] at hg
          injection hg with hg
          rw [← hg]
          exact ⟨HM1.out, fun _ h _ => absurd h (by omega), h3, h4⟩ : MAskR xs j g))
        clear h3
        have w4 : (0 : Int) ≤ (c : Int) := by omega
        rcases hk1 with n1 | ⟨n1, q1⟩
        all_goals
          go_wp2_with fail
          refine (sPathOk_c ep true HP1 _ HZ1.out).mono ?_; rintro e W ⟨rfl, hq⟩; replace hb := chn hb hq; replace c0 := keepc hq c0; replace c1 := keepc hq c1; replace c2 := keepc hq c2; clear hq
          go_wp2_with fail
          refine (l2Data_c ex true HP2 _ HZ2.out).mono ?_; rintro e' W' ⟨rfl, rfl⟩
          go_wp2_with fail
          refine wp_region_held_drew (S := fun w' => Below _ _ w') (by kernel_rfl) (below_drew _) (fun hHeld => ?_)
          refine tk (i := 0) (d := (some 45)) (v := ?_) rfl rfl (by kernel_rfl) (by kernel_rfl) (by kernel_rfl) (fun _ _ _ h => h) (Or.inl ⟨by rfl, ?_⟩) hHeld ?_
          rotate_left
          · intro w hSw; have zc0 := keepc hSw c0; have zc1 := keepc hSw c1; have zc2 := keepc hSw c2; clear hSw; go_simp <;> with_reducible rfl
          (try simp only [Act.put, List.setIfInBounds_toArray, List.set_cons_zero, List.set_cons_succ])
          refine tk (i := 1) (d := (some 46)) (v := ?_) rfl rfl (by kernel_rfl) (by kernel_rfl) (by kernel_rfl) (fun _ _ _ h => h) (Or.inl ⟨by rfl, ?_⟩) hHeld ?_
          rotate_left
          · intro w hSw; have zc0 := keepc hSw c0; have zc1 := keepc hSw c1; have zc2 := keepc hSw c2; clear hSw; go_simp <;> with_reducible rfl
          (try simp only [Act.put, List.setIfInBounds_toArray, List.set_cons_zero, List.set_cons_succ])
          refine tk (i := 2) (d := (some 47)) (v := ?_) rfl rfl (by kernel_rfl) (by kernel_rfl) (by kernel_rfl) (fun _ _ _ h => h) (Or.inl ⟨by rfl, ?_⟩) hHeld ?_
          rotate_left
          · intro w hSw; have zc0 := keepc hSw c0; have zc1 := keepc hSw c1; have zc2 := keepc hSw c2; clear hSw; go_simp <;> with_reducible rfl
          (try simp only [Act.put, List.setIfInBounds_toArray, List.set_cons_zero, List.set_cons_succ])
          refine tk (i := 3) (d := (some 48)) (v := undef) rfl rfl (by kernel_rfl) (by kernel_rfl) (by kernel_rfl) (fun _ _ _ h => h) (Or.inr ⟨by kernel_rfl, rfl⟩) hHeld ?_
          (try simp only [Act.put, List.setIfInBounds_toArray, List.set_cons_zero, List.set_cons_succ])
          refine tk (i := 4) (d := (some 49)) (v := undef) rfl rfl (by kernel_rfl) (by kernel_rfl) (by kernel_rfl) (fun _ _ _ h => h) (Or.inr ⟨by kernel_rfl, rfl⟩) hHeld ?_
          (try simp only [Act.put, List.setIfInBounds_toArray, List.set_cons_zero, List.set_cons_succ])
          refine tk (i := 5) (d := (some 50)) (v := undef) rfl rfl (by kernel_rfl) (by kernel_rfl) (by kernel_rfl) (fun _ _ _ h => h) (Or.inr ⟨by kernel_rfl, rfl⟩) hHeld ?_
          (try simp only [Act.put, List.setIfInBounds_toArray, List.set_cons_zero, List.set_cons_succ])
          refine tk (i := 6) (d := (some 51)) (v := undef) rfl rfl (by kernel_rfl) (by kernel_rfl) (by kernel_rfl) (fun _ _ _ h => h) (Or.inr ⟨by kernel_rfl, rfl⟩) hHeld ?_
          (try simp only [Act.put, List.setIfInBounds_toArray, List.set_cons_zero, List.set_cons_succ])
          refine tk (i := 7) (d := (some 52)) (v := undef) rfl rfl (by kernel_rfl) (by kernel_rfl) (by kernel_rfl) (fun _ _ _ h => h) (Or.inr ⟨by kernel_rfl, rfl⟩) hHeld ?_
          (try simp only [Act.put, List.setIfInBounds_toArray, List.set_cons_zero, List.set_cons_succ])
          refine tk (i := 8) (d := (some 53)) (v := undef) rfl rfl (by kernel_rfl) (by kernel_rfl) (by kernel_rfl) (fun _ _ _ h => h) (Or.inr ⟨by kernel_rfl, rfl⟩) hHeld ?_
          (try simp only [Act.put, List.setIfInBounds_toArray, List.set_cons_zero, List.set_cons_succ])
          refine tk (i := 9) (d := (some 54)) (v := undef) rfl rfl (by kernel_rfl) (by kernel_rfl) (by kernel_rfl) (fun _ _ _ h => h) (Or.inr ⟨by kernel_rfl, rfl⟩) hHeld ?_
          (try simp only [Act.put, List.setIfInBounds_toArray, List.set_cons_zero, List.set_cons_succ])
          refine tk (i := 10) (d := (some 55)) (v := undef) rfl rfl (by kernel_rfl) (by kernel_rfl) (by kernel_rfl) (fun _ _ _ h => h) (Or.inr ⟨by kernel_rfl, rfl⟩) hHeld ?_
          (try simp only [Act.put, List.setIfInBounds_toArray, List.set_cons_zero, List.set_cons_succ])
          refine tk (i := 11) (d := (some 56)) (v := undef) rfl rfl (by kernel_rfl) (by kernel_rfl) (by kernel_rfl) (fun _ _ _ h => h) (Or.inr ⟨by kernel_rfl, rfl⟩) hHeld ?_
          (try simp only [Act.put, List.setIfInBounds_toArray, List.set_cons_zero, List.set_cons_succ])
          refine tk (i := 12) (d := (some 57)) (v := ?_) rfl rfl (by kernel_rfl) (by kernel_rfl) (by kernel_rfl) (fun _ _ _ h => h) (Or.inl ⟨by rfl, ?_⟩) hHeld ?_
          rotate_left
          · intro w hSw; have zc0 := keepc hSw c0; have zc1 := keepc hSw c1; have zc2 := keepc hSw c2; clear hSw; go_simp <;> with_reducible rfl
          (try simp only [Act.put, List.setIfInBounds_toArray, List.set_cons_zero, List.set_cons_succ])
          refine tk (i := 13) (d := (some 58)) (v := ?_) rfl rfl (by kernel_rfl) (by kernel_rfl) (by kernel_rfl) (fun _ _ _ h => h) (Or.inl ⟨by rfl, ?_⟩) hHeld ?_
          rotate_left
          · intro w hSw; have zc0 := keepc hSw c0; have zc1 := keepc hSw c1; have zc2 := keepc hSw c2; clear hSw; go_simp <;> with_reducible rfl
          (try simp only [Act.put, List.setIfInBounds_toArray, List.set_cons_zero, List.set_cons_succ])
          refine tk (i := 14) (d := (some 59)) (v := ?_) rfl rfl (by kernel_rfl) (by kernel_rfl) (by kernel_rfl) (fun _ _ _ h => h) (Or.inl ⟨by rfl, ?_⟩) hHeld ?_
          rotate_left
          · intro w hSw; have zc0 := keepc hSw c0; have zc1 := keepc hSw c1; have zc2 := keepc hSw c2; clear hSw; go_simp <;> with_reducible rfl
          (try simp only [Act.put, List.setIfInBounds_toArray, List.set_cons_zero, List.set_cons_succ])
          refine tk (i := 15) (d := (some 60)) (v := ?_) rfl rfl (by kernel_rfl) (by kernel_rfl) (by kernel_rfl) (fun _ _ _ h => h) (Or.inl ⟨by rfl, ?_⟩) hHeld ?_
          rotate_left
          · intro w hSw; have zc0 := keepc hSw c0; have zc1 := keepc hSw c1; have zc2 := keepc hSw c2; clear hSw; go_simp <;> with_reducible rfl
          (try simp only [Act.put, List.setIfInBounds_toArray, List.set_cons_zero, List.set_cons_succ])
          refine tk (i := 16) (d := (some 61)) (v := ?_) rfl rfl (by kernel_rfl) (by kernel_rfl) (by kernel_rfl) (fun _ _ _ h => h) (Or.inl ⟨by rfl, ?_⟩) hHeld ?_
          rotate_left
          · intro w hSw; have zc0 := keepc hSw c0; have zc1 := keepc hSw c1; have zc2 := keepc hSw c2; clear hSw; go_simp <;> with_reducible rfl
          (try simp only [Act.put, List.setIfInBounds_toArray, List.set_cons_zero, List.set_cons_succ])
          refine tk (i := 17) (d := (some 62)) (v := ?_) rfl rfl (by kernel_rfl) (by kernel_rfl) (by kernel_rfl) (fun _ _ _ h => h) (Or.inl ⟨by rfl, ?_⟩) hHeld ?_
          rotate_left
          · intro w hSw; have zc0 := keepc hSw c0; have zc1 := keepc hSw c1; have zc2 := keepc hSw c2; clear hSw; go_simp <;> with_reducible rfl
          (try simp only [Act.put, List.setIfInBounds_toArray, List.set_cons_zero, List.set_cons_succ])
          refine tk (i := 18) (d := (some 63)) (v := ?_) rfl rfl (by kernel_rfl) (by kernel_rfl) (by kernel_rfl) (fun _ _ _ h => h) (Or.inl ⟨by rfl, ?_⟩) hHeld ?_
          rotate_left
          · intro w hSw; have zc0 := keepc hSw c0; have zc1 := keepc hSw c1; have zc2 := keepc hSw c2; clear hSw; go_simp <;> with_reducible rfl
          (try simp only [Act.put, List.setIfInBounds_toArray, List.set_cons_zero, List.set_cons_succ])
          refine wpAnyH_ready (rs := [19]) (by kernel_rfl) (by simp) ?_
          refine AllReadyH.cons rfl (fun K hK => ?_) AllReadyH.nil
          go_simp
          refine ((GIN.out u HU _ (HS.out.below (chn hb hHeld))).out).mono ?_; rintro e W ⟨rfl, hq⟩
          go_simp
          refine hK.out _ _ (chn hHeld hq) (fun h => ?_)
          clear hK K; replace hHeld := h; clear h hq
          (try simp only [Act.put, List.setIfInBounds_toArray, List.set_cons_zero, List.set_cons_succ])
          cases u with
          | false =>
            obtain rfl : r = false := HNO.out (fun h => by have h := h.2.2.1; rw [upM_tk] at h; exact absurd (HU.out.symm.trans h) (by simp))
            refine tk (i := 20) (d := (some 65)) (v := ?_) rfl rfl (by kernel_rfl) (by kernel_rfl) (by kernel_rfl) (fun _ _ _ h => h) (Or.inl ⟨by rfl, ?_⟩) hHeld ?_
            rotate_left
            · intro w hSw; have zc0 := keepc hSw c0; have zc1 := keepc hSw c1; have zc2 := keepc hSw c2; clear hSw; go_simp <;> with_reducible rfl
            (try simp only [Act.put, List.setIfInBounds_toArray, List.set_cons_zero, List.set_cons_succ])
            refine tk (i := 21) (d := (some 66)) (v := ?_) rfl rfl (by kernel_rfl) (by kernel_rfl) (by kernel_rfl) (fun _ _ _ h => h) (Or.inl ⟨by rfl, ?_⟩) hHeld ?_
            rotate_left
            · intro w hSw; have zc0 := keepc hSw c0; have zc1 := keepc hSw c1; have zc2 := keepc hSw c2; clear hSw; go_simp <;> with_reducible rfl
            (try simp only [Act.put, List.setIfInBounds_toArray, List.set_cons_zero, List.set_cons_succ])
            refine wpAnyH_done (by kernel_rfl) ?_ _
            replace hb := chn hb hHeld; clear hHeld
            go_wp2
            go_ret
            exact ⟨rfl, by repeat (first | exact hb | refine Below.alloc ?_ (by have := hb.size; simp; try omega) _)⟩
          | true =>
            refine tk (i := 20) (d := (some 65)) (v := ?_) rfl rfl (by kernel_rfl) (by kernel_rfl) (by kernel_rfl) (fun _ _ _ h => h) (Or.inl ⟨by rfl, ?_⟩) hHeld ?_
            rotate_left
            · intro w hSw; have zc0 := keepc hSw c0; have zc1 := keepc hSw c1; have zc2 := keepc hSw c2; clear hSw; go_simp <;> with_reducible rfl
            (try simp only [Act.put, List.setIfInBounds_toArray, List.set_cons_zero, List.set_cons_succ])
            refine tk (i := 21) (d := (some 66)) (v := ?_) rfl rfl (by kernel_rfl) (by kernel_rfl) (by kernel_rfl) (fun _ _ _ h => h) (Or.inl ⟨by rfl, ?_⟩) hHeld ?_
            rotate_left
            · intro w hSw; have zc0 := keepc hSw c0; have zc1 := keepc hSw c1; have zc2 := keepc hSw c2; clear hSw; go_simp <;> with_reducible rfl
            (try simp only [Act.put, List.setIfInBounds_toArray, List.set_cons_zero, List.set_cons_succ])
            refine wpAnyH_done (by kernel_rfl) ?_ _
            replace hb := chn hb hHeld; replace c0 := keepc hHeld c0; replace c1 := keepc hHeld c1; replace c2 := keepc hHeld c2; clear hHeld
            have HUQ := Lib.hid ((upM_tk xs 0 ep.data.toList).trans HU.out)
            by_cases k3 : 2 < ek
            · have d3 : decide (2 < ek) = true := by simp; omega
              go_wp2_with fail
              refine wp_region_held_drew (S := fun w' => Below _ _ w') (by kernel_rfl) (below_drew _) (fun hHeld => ?_)
              refine tk (i := 0) (d := (some 67)) (v := ?_) rfl rfl (by kernel_rfl) (by kernel_rfl) (by kernel_rfl) (fun _ _ _ h => h) (Or.inl ⟨by rfl, ?_⟩) hHeld ?_
              rotate_left
              · intro w hSw; have zc0 := keepc hSw c0; have zc1 := keepc hSw c1; have zc2 := keepc hSw c2; clear hSw; go_simp <;> with_reducible rfl
              (try simp only [Act.put, List.setIfInBounds_toArray, List.set_cons_zero, List.set_cons_succ])
              refine tk (i := 1) (d := (some 68)) (v := ?_) rfl rfl (by kernel_rfl) (by kernel_rfl) (by kernel_rfl) (fun _ _ _ h => h) (Or.inl ⟨by rfl, ?_⟩) hHeld ?_
              rotate_left
              · intro w hSw; have zc0 := keepc hSw c0; have zc1 := keepc hSw c1; have zc2 := keepc hSw c2; clear hSw; go_simp <;> with_reducible rfl
              (try simp only [Act.put, List.setIfInBounds_toArray, List.set_cons_zero, List.set_cons_succ])
              refine tk (i := 2) (d := (some 69)) (v := ?_) rfl rfl (by kernel_rfl) (by kernel_rfl) (by kernel_rfl) (fun _ _ _ h => h) (Or.inl ⟨by rfl, ?_⟩) hHeld ?_
              rotate_left
              · intro w hSw; have zc0 := keepc hSw c0; have zc1 := keepc hSw c1; have zc2 := keepc hSw c2; clear hSw; go_simp <;> with_reducible rfl
              (try simp only [Act.put, List.setIfInBounds_toArray, List.set_cons_zero, List.set_cons_succ])
              refine tk (i := 3) (d := (some 70)) (v := ?_) rfl rfl (by kernel_rfl) (by kernel_rfl) (by kernel_rfl) (fun _ _ _ h => h) (Or.inl ⟨by rfl, ?_⟩) hHeld ?_
              rotate_left
              · intro w hSw; have zc0 := keepc hSw c0; have zc1 := keepc hSw c1; have zc2 := keepc hSw c2; clear hSw; go_simp <;> with_reducible rfl
              (try simp only [Act.put, List.setIfInBounds_toArray, List.set_cons_zero, List.set_cons_succ])
              refine tk (i := 4) (d := (some 71)) (v := ?_) rfl rfl (by kernel_rfl) (by kernel_rfl) (by kernel_rfl) (fun _ _ _ h => h) (Or.inl ⟨by rfl, ?_⟩) hHeld ?_
              rotate_left
              · intro w hSw; have zc0 := keepc hSw c0; have zc1 := keepc hSw c1; have zc2 := keepc hSw c2; clear hSw; go_simp <;> with_reducible rfl
              (try simp only [Act.put, List.setIfInBounds_toArray, List.set_cons_zero, List.set_cons_succ])
              refine tk (i := 5) (d := (some 72)) (v := ?_) rfl rfl (by kernel_rfl) (by kernel_rfl) (by kernel_rfl) (fun _ _ _ h => h) (Or.inl ⟨by rfl, ?_⟩) hHeld ?_
              rotate_left
              · intro w hSw; have zc0 := keepc hSw c0; have zc1 := keepc hSw c1; have zc2 := keepc hSw c2; clear hSw; go_simp <;> with_reducible rfl
              (try simp only [Act.put, List.setIfInBounds_toArray, List.set_cons_zero, List.set_cons_succ])
              refine tk (i := 6) (d := (some 73)) (v := ?_) rfl rfl (by kernel_rfl) (by kernel_rfl) (by kernel_rfl) (fun _ _ _ h => h) (Or.inl ⟨by rfl, ?_⟩) hHeld ?_
              rotate_left
              · intro w hSw; have zc0 := keepc hSw c0; have zc1 := keepc hSw c1; have zc2 := keepc hSw c2; clear hSw; go_simp <;> with_reducible rfl
              (try simp only [Act.put, List.setIfInBounds_toArray, List.set_cons_zero, List.set_cons_succ])
              refine tk (i := 7) (d := (some 74)) (v := ?_) rfl rfl (by kernel_rfl) (by kernel_rfl) (by kernel_rfl) (fun _ _ _ h => h) (Or.inl ⟨by rfl, ?_⟩) hHeld ?_
              rotate_left
              · intro w hSw; have zc0 := keepc hSw c0; have zc1 := keepc hSw c1; have zc2 := keepc hSw c2; clear hSw; go_simp <;> with_reducible rfl
              (try simp only [Act.put, List.setIfInBounds_toArray, List.set_cons_zero, List.set_cons_succ])
              refine tk (i := 8) (d := (some 75)) (v := ?_) rfl rfl (by kernel_rfl) (by kernel_rfl) (by kernel_rfl) (fun _ _ _ h => h) (Or.inl ⟨by rfl, ?_⟩) hHeld ?_
              rotate_left
              · intro w hSw; have zc0 := keepc hSw c0; have zc1 := keepc hSw c1; have zc2 := keepc hSw c2; clear hSw; go_simp <;> with_reducible rfl
              (try simp only [Act.put, List.setIfInBounds_toArray, List.set_cons_zero, List.set_cons_succ])
              refine wpAnyH_ready (rs := [9]) (by kernel_rfl) (by simp) ?_
              refine AllReadyH.cons rfl (fun K hK => ?_) AllReadyH.nil
              go_simp
              refine ((GBR.out v HV _ (HS.out.below (chn hb hHeld))).out).mono ?_; rintro e W ⟨rfl, hq⟩
              go_simp
              refine hK.out _ _ (chn hHeld hq) (fun h => ?_)
              clear hK K; replace hHeld := h; clear h hq
              (try simp only [Act.put, List.setIfInBounds_toArray, List.set_cons_zero, List.set_cons_succ])
              cases v with
              | true =>
                obtain rfl : r = false := HNO.out (fun h => by have h := h.2.2.2 k3; exact absurd ((HVB.out).symm.trans h) (by simp))
                refine tk (i := 10) (d := (some 77)) (v := ?_) rfl rfl (by kernel_rfl) (by kernel_rfl) (by kernel_rfl) (fun _ _ _ h => h) (Or.inl ⟨by rfl, ?_⟩) hHeld ?_
                rotate_left
                · intro w hSw; have zc0 := keepc hSw c0; have zc1 := keepc hSw c1; have zc2 := keepc hSw c2; clear hSw; go_simp <;> with_reducible rfl
                (try simp only [Act.put, List.setIfInBounds_toArray, List.set_cons_zero, List.set_cons_succ])
                refine wpAnyH_done (by kernel_rfl) ?_ _
                replace hb := chn hb hHeld; clear hHeld
                go_wp2
                go_ret
                exact ⟨rfl, by repeat (first | exact hb | refine Below.alloc ?_ (by have := hb.size; simp; try omega) _)⟩
              | false =>
                refine tk (i := 10) (d := (some 77)) (v := ?_) rfl rfl (by kernel_rfl) (by kernel_rfl) (by kernel_rfl) (fun _ _ _ h => h) (Or.inl ⟨by rfl, ?_⟩) hHeld ?_
                rotate_left
                · intro w hSw; have zc0 := keepc hSw c0; have zc1 := keepc hSw c1; have zc2 := keepc hSw c2; clear hSw; go_simp <;> with_reducible rfl
                (try simp only [Act.put, List.setIfInBounds_toArray, List.set_cons_zero, List.set_cons_succ])
                refine wpAnyH_done (by kernel_rfl) ?_ _
                replace hb := chn hb hHeld; clear hHeld
                go_wp2
                go_roundw
                case rel => exact ⟨(0+1), by omega, by go_num, ASK.out HUQ.out (fun _ => HVB.out), by repeat (first | exact hb | refine Below.alloc ?_ (by have := hb.size; simp; try omega) _)⟩
                case measure => simp [intOf]; omega
            · have d3 : decide (2 < ek) = false := by simp; omega
              go_wp2_with fail
              refine wp_region_held_drew (S := fun w' => Below _ _ w') (by kernel_rfl) (below_drew _) (fun hHeld => ?_)
              refine tk (i := 0) (d := (some 67)) (v := ?_) rfl rfl (by kernel_rfl) (by kernel_rfl) (by kernel_rfl) (fun _ _ _ h => h) (Or.inl ⟨by rfl, ?_⟩) hHeld ?_
              rotate_left
              · intro w hSw; have zc0 := keepc hSw c0; have zc1 := keepc hSw c1; have zc2 := keepc hSw c2; clear hSw; go_simp <;> with_reducible rfl
              (try simp only [Act.put, List.setIfInBounds_toArray, List.set_cons_zero, List.set_cons_succ])
              refine tk (i := 1) (d := (some 68)) (v := ?_) rfl rfl (by kernel_rfl) (by kernel_rfl) (by kernel_rfl) (fun _ _ _ h => h) (Or.inl ⟨by rfl, ?_⟩) hHeld ?_
              rotate_left
              · intro w hSw; have zc0 := keepc hSw c0; have zc1 := keepc hSw c1; have zc2 := keepc hSw c2; clear hSw; go_simp <;> with_reducible rfl
              (try simp only [Act.put, List.setIfInBounds_toArray, List.set_cons_zero, List.set_cons_succ])
              refine tk (i := 2) (d := (some 69)) (v := ?_) rfl rfl (by kernel_rfl) (by kernel_rfl) (by kernel_rfl) (fun _ _ _ h => h) (Or.inl ⟨by rfl, ?_⟩) hHeld ?_
              rotate_left
              · intro w hSw; have zc0 := keepc hSw c0; have zc1 := keepc hSw c1; have zc2 := keepc hSw c2; clear hSw; go_simp <;> with_reducible rfl
              (try simp only [Act.put, List.setIfInBounds_toArray, List.set_cons_zero, List.set_cons_succ])
              refine tk (i := 3) (d := (some 70)) (v := ?_) rfl rfl (by kernel_rfl) (by kernel_rfl) (by kernel_rfl) (fun _ _ _ h => h) (Or.inl ⟨by rfl, ?_⟩) hHeld ?_
              rotate_left
              · intro w hSw; have zc0 := keepc hSw c0; have zc1 := keepc hSw c1; have zc2 := keepc hSw c2; clear hSw; go_simp <;> with_reducible rfl
              (try simp only [Act.put, List.setIfInBounds_toArray, List.set_cons_zero, List.set_cons_succ])
              refine tk (i := 4) (d := (some 71)) (v := undef) rfl rfl (by kernel_rfl) (by kernel_rfl) (by kernel_rfl) (fun _ _ _ h => h) (Or.inr ⟨by kernel_rfl, rfl⟩) hHeld ?_
              (try simp only [Act.put, List.setIfInBounds_toArray, List.set_cons_zero, List.set_cons_succ])
              refine tk (i := 5) (d := (some 72)) (v := undef) rfl rfl (by kernel_rfl) (by kernel_rfl) (by kernel_rfl) (fun _ _ _ h => h) (Or.inr ⟨by kernel_rfl, rfl⟩) hHeld ?_
              (try simp only [Act.put, List.setIfInBounds_toArray, List.set_cons_zero, List.set_cons_succ])
              refine tk (i := 6) (d := (some 73)) (v := undef) rfl rfl (by kernel_rfl) (by kernel_rfl) (by kernel_rfl) (fun _ _ _ h => h) (Or.inr ⟨by kernel_rfl, rfl⟩) hHeld ?_
              (try simp only [Act.put, List.setIfInBounds_toArray, List.set_cons_zero, List.set_cons_succ])
              refine tk (i := 7) (d := (some 74)) (v := undef) rfl rfl (by kernel_rfl) (by kernel_rfl) (by kernel_rfl) (fun _ _ _ h => h) (Or.inr ⟨by kernel_rfl, rfl⟩) hHeld ?_
              (try simp only [Act.put, List.setIfInBounds_toArray, List.set_cons_zero, List.set_cons_succ])
              refine tk (i := 8) (d := (some 75)) (v := undef) rfl rfl (by kernel_rfl) (by kernel_rfl) (by kernel_rfl) (fun _ _ _ h => h) (Or.inr ⟨by kernel_rfl, rfl⟩) hHeld ?_
              (try simp only [Act.put, List.setIfInBounds_toArray, List.set_cons_zero, List.set_cons_succ])
              refine tk (i := 9) (d := (some 76)) (v := undef) rfl rfl (by kernel_rfl) (by kernel_rfl) (by kernel_rfl) (fun _ _ _ h => h) (Or.inr ⟨by kernel_rfl, rfl⟩) hHeld ?_
              (try simp only [Act.put, List.setIfInBounds_toArray, List.set_cons_zero, List.set_cons_succ])
              refine tk (i := 10) (d := (some 77)) (v := ?_) rfl rfl (by kernel_rfl) (by kernel_rfl) (by kernel_rfl) (fun _ _ _ h => h) (Or.inl ⟨by rfl, ?_⟩) hHeld ?_
              rotate_left
              · intro w hSw; have zc0 := keepc hSw c0; have zc1 := keepc hSw c1; have zc2 := keepc hSw c2; clear hSw; go_simp <;> with_reducible rfl
              (try simp only [Act.put, List.setIfInBounds_toArray, List.set_cons_zero, List.set_cons_succ])
              refine wpAnyH_done (by kernel_rfl) ?_ _
              replace hb := chn hb hHeld; clear hHeld
              go_wp2
              go_roundw
              case rel => exact ⟨(0+1), by omega, by go_num, ASK.out HUQ.out (fun h => (by exfalso; omega)), by repeat (first | exact hb | refine Below.alloc ?_ (by have := hb.size; simp; try omega) _)⟩
              case measure => simp [intOf]; omega
      | succ k =>
        obtain ⟨f, hff⟩ : ∃ f, xs[k]? = some f := ⟨_, List.getElem?_eq_getElem (by rw [HN.out]; omega)⟩
        obtain ⟨c3, _, _⟩ := mk_at h3 k f hff
        replace c3 := keepc (bellow_alloc wr (.cells #[.string ep, .int .i64 ek, .string ex] 43)) c3
        have HFF := Lib.hid hff
        clear hff h3
        have w0 : IntKind.i64.wrap (k : Int) = (k : Int) := IntWalk.i64_in _ (by omega)
        have w1 : (0 : Int) ≤ (k : Int) := by omega
        have w2 : (k : Int) < (n : Int) := by omega
        have w3 : (0 : Int) ≤ (k : Int) + 1 := by omega
        have w4 : (k : Int) + 1 ≤ (c : Int) := by omega
        rcases Bool.eq_false_or_eq_true (Op.bytesLess f.p.toList ep.toList) with hle | hle
        · have HLE := Lib.hid hle
          have ASK := Lib.hid (fun (h3 : upM ((xs.map Mk.pl).take (k + 1)) ep.data.toList = true) (h4 : 2 < ek → bareL ((xs.map Mk.pl).take (k + 1)) ep.data.toList = false) (j : Nat) (g : Mk) (hj : j < k + 1 + 1) (hg : xs[j]? = some g) => (by
            by_cases ej : j = k + 1
            · subst ej
              rw [HEE.out] at hg
              injection hg with hg
              rw [← hg]
              exact ⟨HM1.out, mless_of xs k f ⟨ep, ek, ex⟩ HFF.out HLE.out, h3, h4⟩
            · exact HA.out j g (by omega) hg : MAskR xs j g))
          rcases hk1 with n1 | ⟨n1, q1⟩
          all_goals
            go_wp2_with fail
            refine (sPathOk_c ep true HP1 _ HZ1.out).mono ?_; rintro e W ⟨rfl, hq⟩; replace hb := chn hb hq; replace c0 := keepc hq c0; replace c1 := keepc hq c1; replace c2 := keepc hq c2; replace c3 := keepc hq c3; clear hq
            go_wp2_with fail
            refine (l2Data_c ex true HP2 _ HZ2.out).mono ?_; rintro e' W' ⟨rfl, rfl⟩
            go_wp2_with fail
            refine wp_region_held_drew (S := fun w' => Below _ _ w') (by kernel_rfl) (below_drew _) (fun hHeld => ?_)
            refine tk (i := 0) (d := (some 45)) (v := ?_) rfl rfl (by kernel_rfl) (by kernel_rfl) (by kernel_rfl) (fun _ _ _ h => h) (Or.inl ⟨by rfl, ?_⟩) hHeld ?_
            rotate_left
            · intro w hSw; have zc0 := keepc hSw c0; have zc1 := keepc hSw c1; have zc2 := keepc hSw c2; have zc3 := keepc hSw c3; clear hSw; go_simp <;> with_reducible rfl
            (try simp only [Act.put, List.setIfInBounds_toArray, List.set_cons_zero, List.set_cons_succ])
            refine tk (i := 1) (d := (some 46)) (v := ?_) rfl rfl (by kernel_rfl) (by kernel_rfl) (by kernel_rfl) (fun _ _ _ h => h) (Or.inl ⟨by rfl, ?_⟩) hHeld ?_
            rotate_left
            · intro w hSw; have zc0 := keepc hSw c0; have zc1 := keepc hSw c1; have zc2 := keepc hSw c2; have zc3 := keepc hSw c3; clear hSw; go_simp <;> with_reducible rfl
            (try simp only [Act.put, List.setIfInBounds_toArray, List.set_cons_zero, List.set_cons_succ])
            refine tk (i := 2) (d := (some 47)) (v := ?_) rfl rfl (by kernel_rfl) (by kernel_rfl) (by kernel_rfl) (fun _ _ _ h => h) (Or.inl ⟨by rfl, ?_⟩) hHeld ?_
            rotate_left
            · intro w hSw; have zc0 := keepc hSw c0; have zc1 := keepc hSw c1; have zc2 := keepc hSw c2; have zc3 := keepc hSw c3; clear hSw; go_simp <;> with_reducible rfl
            (try simp only [Act.put, List.setIfInBounds_toArray, List.set_cons_zero, List.set_cons_succ])
            refine tk (i := 3) (d := (some 48)) (v := ?_) rfl rfl (by kernel_rfl) (by kernel_rfl) (by kernel_rfl) (fun _ _ _ h => h) (Or.inl ⟨by rfl, ?_⟩) hHeld ?_
            rotate_left
            · intro w hSw; have zc0 := keepc hSw c0; have zc1 := keepc hSw c1; have zc2 := keepc hSw c2; have zc3 := keepc hSw c3; clear hSw; go_simp <;> with_reducible rfl
            (try simp only [Act.put, List.setIfInBounds_toArray, List.set_cons_zero, List.set_cons_succ])
            refine tk (i := 4) (d := (some 49)) (v := ?_) rfl rfl (by kernel_rfl) (by kernel_rfl) (by kernel_rfl) (fun _ _ _ h => h) (Or.inl ⟨by rfl, ?_⟩) hHeld ?_
            rotate_left
            · intro w hSw; have zc0 := keepc hSw c0; have zc1 := keepc hSw c1; have zc2 := keepc hSw c2; have zc3 := keepc hSw c3; clear hSw; go_simp <;> with_reducible rfl
            (try simp only [Act.put, List.setIfInBounds_toArray, List.set_cons_zero, List.set_cons_succ])
            refine tk (i := 5) (d := (some 50)) (v := ?_) rfl rfl (by kernel_rfl) (by kernel_rfl) (by kernel_rfl) (fun _ _ _ h => h) (Or.inl ⟨by rfl, ?_⟩) hHeld ?_
            rotate_left
            · intro w hSw; have zc0 := keepc hSw c0; have zc1 := keepc hSw c1; have zc2 := keepc hSw c2; have zc3 := keepc hSw c3; clear hSw; go_simp <;> with_reducible rfl
            (try simp only [Act.put, List.setIfInBounds_toArray, List.set_cons_zero, List.set_cons_succ])
            refine tk (i := 6) (d := (some 51)) (v := ?_) rfl rfl (by kernel_rfl) (by kernel_rfl) (by kernel_rfl) (fun _ _ _ h => h) (Or.inl ⟨by rfl, ?_⟩) hHeld ?_
            rotate_left
            · intro w hSw; have zc0 := keepc hSw c0; have zc1 := keepc hSw c1; have zc2 := keepc hSw c2; have zc3 := keepc hSw c3; clear hSw; go_simp <;> with_reducible rfl
            (try simp only [Act.put, List.setIfInBounds_toArray, List.set_cons_zero, List.set_cons_succ])
            refine tk (i := 7) (d := (some 52)) (v := ?_) rfl rfl (by kernel_rfl) (by kernel_rfl) (by kernel_rfl) (fun _ _ _ h => h) (Or.inl ⟨by rfl, ?_⟩) hHeld ?_
            rotate_left
            · intro w hSw; have zc0 := keepc hSw c0; have zc1 := keepc hSw c1; have zc2 := keepc hSw c2; have zc3 := keepc hSw c3; clear hSw; go_simp <;> with_reducible rfl
            (try simp only [Act.put, List.setIfInBounds_toArray, List.set_cons_zero, List.set_cons_succ])
            refine tk (i := 8) (d := (some 53)) (v := ?_) rfl rfl (by kernel_rfl) (by kernel_rfl) (by kernel_rfl) (fun _ _ _ h => h) (Or.inl ⟨by rfl, ?_⟩) hHeld ?_
            rotate_left
            · intro w hSw; have zc0 := keepc hSw c0; have zc1 := keepc hSw c1; have zc2 := keepc hSw c2; have zc3 := keepc hSw c3; clear hSw; go_simp <;> with_reducible rfl
            (try simp only [Act.put, List.setIfInBounds_toArray, List.set_cons_zero, List.set_cons_succ])
            refine tk (i := 9) (d := (some 54)) (v := ?_) rfl rfl (by kernel_rfl) (by kernel_rfl) (by kernel_rfl) (fun _ _ _ h => h) (Or.inl ⟨by rfl, ?_⟩) hHeld ?_
            rotate_left
            · intro w hSw; have zc0 := keepc hSw c0; have zc1 := keepc hSw c1; have zc2 := keepc hSw c2; have zc3 := keepc hSw c3; clear hSw; go_simp <;> with_reducible rfl
            (try simp only [Act.put, List.setIfInBounds_toArray, List.set_cons_zero, List.set_cons_succ])
            refine tk (i := 10) (d := (some 55)) (v := ?_) rfl rfl (by kernel_rfl) (by kernel_rfl) (by kernel_rfl) (fun _ _ _ h => h) (Or.inl ⟨by rfl, ?_⟩) hHeld ?_
            rotate_left
            · intro w hSw; have zc0 := keepc hSw c0; have zc1 := keepc hSw c1; have zc2 := keepc hSw c2; have zc3 := keepc hSw c3; clear hSw; go_simp <;> with_reducible rfl
            (try simp only [Act.put, List.setIfInBounds_toArray, List.set_cons_zero, List.set_cons_succ])
            refine tk (i := 11) (d := (some 56)) (v := ?_) rfl rfl (by kernel_rfl) (by kernel_rfl) (by kernel_rfl) (fun _ _ _ h => h) (Or.inl ⟨by rfl, ?_⟩) hHeld ?_
            rotate_left
            · intro w hSw; have zc0 := keepc hSw c0; have zc1 := keepc hSw c1; have zc2 := keepc hSw c2; have zc3 := keepc hSw c3; clear hSw; go_simp <;> with_reducible rfl
            (try simp only [Act.put, List.setIfInBounds_toArray, List.set_cons_zero, List.set_cons_succ])
            refine tk (i := 12) (d := (some 57)) (v := ?_) rfl rfl (by kernel_rfl) (by kernel_rfl) (by kernel_rfl) (fun _ _ _ h => h) (Or.inl ⟨by rfl, ?_⟩) hHeld ?_
            rotate_left
            · intro w hSw; have zc0 := keepc hSw c0; have zc1 := keepc hSw c1; have zc2 := keepc hSw c2; have zc3 := keepc hSw c3; clear hSw; go_simp <;> with_reducible rfl
            (try simp only [Act.put, List.setIfInBounds_toArray, List.set_cons_zero, List.set_cons_succ])
            refine tk (i := 13) (d := (some 58)) (v := ?_) rfl rfl (by kernel_rfl) (by kernel_rfl) (by kernel_rfl) (fun _ _ _ h => h) (Or.inl ⟨by rfl, ?_⟩) hHeld ?_
            rotate_left
            · intro w hSw; have zc0 := keepc hSw c0; have zc1 := keepc hSw c1; have zc2 := keepc hSw c2; have zc3 := keepc hSw c3; clear hSw; go_simp <;> with_reducible rfl
            (try simp only [Act.put, List.setIfInBounds_toArray, List.set_cons_zero, List.set_cons_succ])
            refine tk (i := 14) (d := (some 59)) (v := ?_) rfl rfl (by kernel_rfl) (by kernel_rfl) (by kernel_rfl) (fun _ _ _ h => h) (Or.inl ⟨by rfl, ?_⟩) hHeld ?_
            rotate_left
            · intro w hSw; have zc0 := keepc hSw c0; have zc1 := keepc hSw c1; have zc2 := keepc hSw c2; have zc3 := keepc hSw c3; clear hSw; go_simp <;> with_reducible rfl
            (try simp only [Act.put, List.setIfInBounds_toArray, List.set_cons_zero, List.set_cons_succ])
            refine tk (i := 15) (d := (some 60)) (v := ?_) rfl rfl (by kernel_rfl) (by kernel_rfl) (by kernel_rfl) (fun _ _ _ h => h) (Or.inl ⟨by rfl, ?_⟩) hHeld ?_
            rotate_left
            · intro w hSw; have zc0 := keepc hSw c0; have zc1 := keepc hSw c1; have zc2 := keepc hSw c2; have zc3 := keepc hSw c3; clear hSw; go_simp <;> with_reducible rfl
            (try simp only [Act.put, List.setIfInBounds_toArray, List.set_cons_zero, List.set_cons_succ])
            refine tk (i := 16) (d := (some 61)) (v := ?_) rfl rfl (by kernel_rfl) (by kernel_rfl) (by kernel_rfl) (fun _ _ _ h => h) (Or.inl ⟨by rfl, ?_⟩) hHeld ?_
            rotate_left
            · intro w hSw; have zc0 := keepc hSw c0; have zc1 := keepc hSw c1; have zc2 := keepc hSw c2; have zc3 := keepc hSw c3; clear hSw; go_simp <;> with_reducible rfl
            (try simp only [Act.put, List.setIfInBounds_toArray, List.set_cons_zero, List.set_cons_succ])
            refine tk (i := 17) (d := (some 62)) (v := ?_) rfl rfl (by kernel_rfl) (by kernel_rfl) (by kernel_rfl) (fun _ _ _ h => h) (Or.inl ⟨by rfl, ?_⟩) hHeld ?_
            rotate_left
            · intro w hSw; have zc0 := keepc hSw c0; have zc1 := keepc hSw c1; have zc2 := keepc hSw c2; have zc3 := keepc hSw c3; clear hSw; go_simp <;> with_reducible rfl
            (try simp only [Act.put, List.setIfInBounds_toArray, List.set_cons_zero, List.set_cons_succ])
            refine tk (i := 18) (d := (some 63)) (v := ?_) rfl rfl (by kernel_rfl) (by kernel_rfl) (by kernel_rfl) (fun _ _ _ h => h) (Or.inl ⟨by rfl, ?_⟩) hHeld ?_
            rotate_left
            · intro w hSw; have zc0 := keepc hSw c0; have zc1 := keepc hSw c1; have zc2 := keepc hSw c2; have zc3 := keepc hSw c3; clear hSw; go_simp <;> with_reducible rfl
            (try simp only [Act.put, List.setIfInBounds_toArray, List.set_cons_zero, List.set_cons_succ])
            refine wpAnyH_ready (rs := [19]) (by kernel_rfl) (by simp) ?_
            refine AllReadyH.cons rfl (fun K hK => ?_) AllReadyH.nil
            go_simp
            refine ((GIN.out u HU _ (HS.out.below (chn hb hHeld))).out).mono ?_; rintro e W ⟨rfl, hq⟩
            go_simp
            refine hK.out _ _ (chn hHeld hq) (fun h => ?_)
            clear hK K; replace hHeld := h; clear h hq
            (try simp only [Act.put, List.setIfInBounds_toArray, List.set_cons_zero, List.set_cons_succ])
            cases u with
            | false =>
              obtain rfl : r = false := HNO.out (fun h => by have h := h.2.2.1; rw [upM_tk] at h; exact absurd (HU.out.symm.trans h) (by simp))
              refine tk (i := 20) (d := (some 65)) (v := ?_) rfl rfl (by kernel_rfl) (by kernel_rfl) (by kernel_rfl) (fun _ _ _ h => h) (Or.inl ⟨by rfl, ?_⟩) hHeld ?_
              rotate_left
              · intro w hSw; have zc0 := keepc hSw c0; have zc1 := keepc hSw c1; have zc2 := keepc hSw c2; have zc3 := keepc hSw c3; clear hSw; go_simp <;> with_reducible rfl
              (try simp only [Act.put, List.setIfInBounds_toArray, List.set_cons_zero, List.set_cons_succ])
              refine tk (i := 21) (d := (some 66)) (v := ?_) rfl rfl (by kernel_rfl) (by kernel_rfl) (by kernel_rfl) (fun _ _ _ h => h) (Or.inl ⟨by rfl, ?_⟩) hHeld ?_
              rotate_left
              · intro w hSw; have zc0 := keepc hSw c0; have zc1 := keepc hSw c1; have zc2 := keepc hSw c2; have zc3 := keepc hSw c3; clear hSw; go_simp <;> with_reducible rfl
              (try simp only [Act.put, List.setIfInBounds_toArray, List.set_cons_zero, List.set_cons_succ])
              refine wpAnyH_done (by kernel_rfl) ?_ _
              replace hb := chn hb hHeld; clear hHeld
              go_wp2
              go_ret
              exact ⟨rfl, by repeat (first | exact hb | refine Below.alloc ?_ (by have := hb.size; simp; try omega) _)⟩
            | true =>
              refine tk (i := 20) (d := (some 65)) (v := ?_) rfl rfl (by kernel_rfl) (by kernel_rfl) (by kernel_rfl) (fun _ _ _ h => h) (Or.inl ⟨by rfl, ?_⟩) hHeld ?_
              rotate_left
              · intro w hSw; have zc0 := keepc hSw c0; have zc1 := keepc hSw c1; have zc2 := keepc hSw c2; have zc3 := keepc hSw c3; clear hSw; go_simp <;> with_reducible rfl
              (try simp only [Act.put, List.setIfInBounds_toArray, List.set_cons_zero, List.set_cons_succ])
              refine tk (i := 21) (d := (some 66)) (v := ?_) rfl rfl (by kernel_rfl) (by kernel_rfl) (by kernel_rfl) (fun _ _ _ h => h) (Or.inl ⟨by rfl, ?_⟩) hHeld ?_
              rotate_left
              · intro w hSw; have zc0 := keepc hSw c0; have zc1 := keepc hSw c1; have zc2 := keepc hSw c2; have zc3 := keepc hSw c3; clear hSw; go_simp <;> with_reducible rfl
              (try simp only [Act.put, List.setIfInBounds_toArray, List.set_cons_zero, List.set_cons_succ])
              refine wpAnyH_done (by kernel_rfl) ?_ _
              replace hb := chn hb hHeld; replace c0 := keepc hHeld c0; replace c1 := keepc hHeld c1; replace c2 := keepc hHeld c2; clear hHeld
              have HUQ := Lib.hid ((upM_tk xs (k+1) ep.data.toList).trans HU.out)
              by_cases k3 : 2 < ek
              · have d3 : decide (2 < ek) = true := by simp; omega
                go_wp2_with fail
                refine wp_region_held_drew (S := fun w' => Below _ _ w') (by kernel_rfl) (below_drew _) (fun hHeld => ?_)
                refine tk (i := 0) (d := (some 67)) (v := ?_) rfl rfl (by kernel_rfl) (by kernel_rfl) (by kernel_rfl) (fun _ _ _ h => h) (Or.inl ⟨by rfl, ?_⟩) hHeld ?_
                rotate_left
                · intro w hSw; have zc0 := keepc hSw c0; have zc1 := keepc hSw c1; have zc2 := keepc hSw c2; clear hSw; go_simp <;> with_reducible rfl
                (try simp only [Act.put, List.setIfInBounds_toArray, List.set_cons_zero, List.set_cons_succ])
                refine tk (i := 1) (d := (some 68)) (v := ?_) rfl rfl (by kernel_rfl) (by kernel_rfl) (by kernel_rfl) (fun _ _ _ h => h) (Or.inl ⟨by rfl, ?_⟩) hHeld ?_
                rotate_left
                · intro w hSw; have zc0 := keepc hSw c0; have zc1 := keepc hSw c1; have zc2 := keepc hSw c2; clear hSw; go_simp <;> with_reducible rfl
                (try simp only [Act.put, List.setIfInBounds_toArray, List.set_cons_zero, List.set_cons_succ])
                refine tk (i := 2) (d := (some 69)) (v := ?_) rfl rfl (by kernel_rfl) (by kernel_rfl) (by kernel_rfl) (fun _ _ _ h => h) (Or.inl ⟨by rfl, ?_⟩) hHeld ?_
                rotate_left
                · intro w hSw; have zc0 := keepc hSw c0; have zc1 := keepc hSw c1; have zc2 := keepc hSw c2; clear hSw; go_simp <;> with_reducible rfl
                (try simp only [Act.put, List.setIfInBounds_toArray, List.set_cons_zero, List.set_cons_succ])
                refine tk (i := 3) (d := (some 70)) (v := ?_) rfl rfl (by kernel_rfl) (by kernel_rfl) (by kernel_rfl) (fun _ _ _ h => h) (Or.inl ⟨by rfl, ?_⟩) hHeld ?_
                rotate_left
                · intro w hSw; have zc0 := keepc hSw c0; have zc1 := keepc hSw c1; have zc2 := keepc hSw c2; clear hSw; go_simp <;> with_reducible rfl
                (try simp only [Act.put, List.setIfInBounds_toArray, List.set_cons_zero, List.set_cons_succ])
                refine tk (i := 4) (d := (some 71)) (v := ?_) rfl rfl (by kernel_rfl) (by kernel_rfl) (by kernel_rfl) (fun _ _ _ h => h) (Or.inl ⟨by rfl, ?_⟩) hHeld ?_
                rotate_left
                · intro w hSw; have zc0 := keepc hSw c0; have zc1 := keepc hSw c1; have zc2 := keepc hSw c2; clear hSw; go_simp <;> with_reducible rfl
                (try simp only [Act.put, List.setIfInBounds_toArray, List.set_cons_zero, List.set_cons_succ])
                refine tk (i := 5) (d := (some 72)) (v := ?_) rfl rfl (by kernel_rfl) (by kernel_rfl) (by kernel_rfl) (fun _ _ _ h => h) (Or.inl ⟨by rfl, ?_⟩) hHeld ?_
                rotate_left
                · intro w hSw; have zc0 := keepc hSw c0; have zc1 := keepc hSw c1; have zc2 := keepc hSw c2; clear hSw; go_simp <;> with_reducible rfl
                (try simp only [Act.put, List.setIfInBounds_toArray, List.set_cons_zero, List.set_cons_succ])
                refine tk (i := 6) (d := (some 73)) (v := ?_) rfl rfl (by kernel_rfl) (by kernel_rfl) (by kernel_rfl) (fun _ _ _ h => h) (Or.inl ⟨by rfl, ?_⟩) hHeld ?_
                rotate_left
                · intro w hSw; have zc0 := keepc hSw c0; have zc1 := keepc hSw c1; have zc2 := keepc hSw c2; clear hSw; go_simp <;> with_reducible rfl
                (try simp only [Act.put, List.setIfInBounds_toArray, List.set_cons_zero, List.set_cons_succ])
                refine tk (i := 7) (d := (some 74)) (v := ?_) rfl rfl (by kernel_rfl) (by kernel_rfl) (by kernel_rfl) (fun _ _ _ h => h) (Or.inl ⟨by rfl, ?_⟩) hHeld ?_
                rotate_left
                · intro w hSw; have zc0 := keepc hSw c0; have zc1 := keepc hSw c1; have zc2 := keepc hSw c2; clear hSw; go_simp <;> with_reducible rfl
                (try simp only [Act.put, List.setIfInBounds_toArray, List.set_cons_zero, List.set_cons_succ])
                refine tk (i := 8) (d := (some 75)) (v := ?_) rfl rfl (by kernel_rfl) (by kernel_rfl) (by kernel_rfl) (fun _ _ _ h => h) (Or.inl ⟨by rfl, ?_⟩) hHeld ?_
                rotate_left
                · intro w hSw; have zc0 := keepc hSw c0; have zc1 := keepc hSw c1; have zc2 := keepc hSw c2; clear hSw; go_simp <;> with_reducible rfl
                (try simp only [Act.put, List.setIfInBounds_toArray, List.set_cons_zero, List.set_cons_succ])
                refine wpAnyH_ready (rs := [9]) (by kernel_rfl) (by simp) ?_
                refine AllReadyH.cons rfl (fun K hK => ?_) AllReadyH.nil
                go_simp
                refine ((GBR.out v HV _ (HS.out.below (chn hb hHeld))).out).mono ?_; rintro e W ⟨rfl, hq⟩
                go_simp
                refine hK.out _ _ (chn hHeld hq) (fun h => ?_)
                clear hK K; replace hHeld := h; clear h hq
                (try simp only [Act.put, List.setIfInBounds_toArray, List.set_cons_zero, List.set_cons_succ])
                cases v with
                | true =>
                  obtain rfl : r = false := HNO.out (fun h => by have h := h.2.2.2 k3; exact absurd ((HVB.out).symm.trans h) (by simp))
                  refine tk (i := 10) (d := (some 77)) (v := ?_) rfl rfl (by kernel_rfl) (by kernel_rfl) (by kernel_rfl) (fun _ _ _ h => h) (Or.inl ⟨by rfl, ?_⟩) hHeld ?_
                  rotate_left
                  · intro w hSw; have zc0 := keepc hSw c0; have zc1 := keepc hSw c1; have zc2 := keepc hSw c2; clear hSw; go_simp <;> with_reducible rfl
                  (try simp only [Act.put, List.setIfInBounds_toArray, List.set_cons_zero, List.set_cons_succ])
                  refine wpAnyH_done (by kernel_rfl) ?_ _
                  replace hb := chn hb hHeld; clear hHeld
                  go_wp2
                  go_ret
                  exact ⟨rfl, by repeat (first | exact hb | refine Below.alloc ?_ (by have := hb.size; simp; try omega) _)⟩
                | false =>
                  refine tk (i := 10) (d := (some 77)) (v := ?_) rfl rfl (by kernel_rfl) (by kernel_rfl) (by kernel_rfl) (fun _ _ _ h => h) (Or.inl ⟨by rfl, ?_⟩) hHeld ?_
                  rotate_left
                  · intro w hSw; have zc0 := keepc hSw c0; have zc1 := keepc hSw c1; have zc2 := keepc hSw c2; clear hSw; go_simp <;> with_reducible rfl
                  (try simp only [Act.put, List.setIfInBounds_toArray, List.set_cons_zero, List.set_cons_succ])
                  refine wpAnyH_done (by kernel_rfl) ?_ _
                  replace hb := chn hb hHeld; clear hHeld
                  go_wp2
                  go_roundw
                  case rel => exact ⟨(k+1+1), by omega, by go_num, ASK.out HUQ.out (fun _ => HVB.out), by repeat (first | exact hb | refine Below.alloc ?_ (by have := hb.size; simp; try omega) _)⟩
                  case measure => simp [intOf]; omega
              · have d3 : decide (2 < ek) = false := by simp; omega
                go_wp2_with fail
                refine wp_region_held_drew (S := fun w' => Below _ _ w') (by kernel_rfl) (below_drew _) (fun hHeld => ?_)
                refine tk (i := 0) (d := (some 67)) (v := ?_) rfl rfl (by kernel_rfl) (by kernel_rfl) (by kernel_rfl) (fun _ _ _ h => h) (Or.inl ⟨by rfl, ?_⟩) hHeld ?_
                rotate_left
                · intro w hSw; have zc0 := keepc hSw c0; have zc1 := keepc hSw c1; have zc2 := keepc hSw c2; clear hSw; go_simp <;> with_reducible rfl
                (try simp only [Act.put, List.setIfInBounds_toArray, List.set_cons_zero, List.set_cons_succ])
                refine tk (i := 1) (d := (some 68)) (v := ?_) rfl rfl (by kernel_rfl) (by kernel_rfl) (by kernel_rfl) (fun _ _ _ h => h) (Or.inl ⟨by rfl, ?_⟩) hHeld ?_
                rotate_left
                · intro w hSw; have zc0 := keepc hSw c0; have zc1 := keepc hSw c1; have zc2 := keepc hSw c2; clear hSw; go_simp <;> with_reducible rfl
                (try simp only [Act.put, List.setIfInBounds_toArray, List.set_cons_zero, List.set_cons_succ])
                refine tk (i := 2) (d := (some 69)) (v := ?_) rfl rfl (by kernel_rfl) (by kernel_rfl) (by kernel_rfl) (fun _ _ _ h => h) (Or.inl ⟨by rfl, ?_⟩) hHeld ?_
                rotate_left
                · intro w hSw; have zc0 := keepc hSw c0; have zc1 := keepc hSw c1; have zc2 := keepc hSw c2; clear hSw; go_simp <;> with_reducible rfl
                (try simp only [Act.put, List.setIfInBounds_toArray, List.set_cons_zero, List.set_cons_succ])
                refine tk (i := 3) (d := (some 70)) (v := ?_) rfl rfl (by kernel_rfl) (by kernel_rfl) (by kernel_rfl) (fun _ _ _ h => h) (Or.inl ⟨by rfl, ?_⟩) hHeld ?_
                rotate_left
                · intro w hSw; have zc0 := keepc hSw c0; have zc1 := keepc hSw c1; have zc2 := keepc hSw c2; clear hSw; go_simp <;> with_reducible rfl
                (try simp only [Act.put, List.setIfInBounds_toArray, List.set_cons_zero, List.set_cons_succ])
                refine tk (i := 4) (d := (some 71)) (v := undef) rfl rfl (by kernel_rfl) (by kernel_rfl) (by kernel_rfl) (fun _ _ _ h => h) (Or.inr ⟨by kernel_rfl, rfl⟩) hHeld ?_
                (try simp only [Act.put, List.setIfInBounds_toArray, List.set_cons_zero, List.set_cons_succ])
                refine tk (i := 5) (d := (some 72)) (v := undef) rfl rfl (by kernel_rfl) (by kernel_rfl) (by kernel_rfl) (fun _ _ _ h => h) (Or.inr ⟨by kernel_rfl, rfl⟩) hHeld ?_
                (try simp only [Act.put, List.setIfInBounds_toArray, List.set_cons_zero, List.set_cons_succ])
                refine tk (i := 6) (d := (some 73)) (v := undef) rfl rfl (by kernel_rfl) (by kernel_rfl) (by kernel_rfl) (fun _ _ _ h => h) (Or.inr ⟨by kernel_rfl, rfl⟩) hHeld ?_
                (try simp only [Act.put, List.setIfInBounds_toArray, List.set_cons_zero, List.set_cons_succ])
                refine tk (i := 7) (d := (some 74)) (v := undef) rfl rfl (by kernel_rfl) (by kernel_rfl) (by kernel_rfl) (fun _ _ _ h => h) (Or.inr ⟨by kernel_rfl, rfl⟩) hHeld ?_
                (try simp only [Act.put, List.setIfInBounds_toArray, List.set_cons_zero, List.set_cons_succ])
                refine tk (i := 8) (d := (some 75)) (v := undef) rfl rfl (by kernel_rfl) (by kernel_rfl) (by kernel_rfl) (fun _ _ _ h => h) (Or.inr ⟨by kernel_rfl, rfl⟩) hHeld ?_
                (try simp only [Act.put, List.setIfInBounds_toArray, List.set_cons_zero, List.set_cons_succ])
                refine tk (i := 9) (d := (some 76)) (v := undef) rfl rfl (by kernel_rfl) (by kernel_rfl) (by kernel_rfl) (fun _ _ _ h => h) (Or.inr ⟨by kernel_rfl, rfl⟩) hHeld ?_
                (try simp only [Act.put, List.setIfInBounds_toArray, List.set_cons_zero, List.set_cons_succ])
                refine tk (i := 10) (d := (some 77)) (v := ?_) rfl rfl (by kernel_rfl) (by kernel_rfl) (by kernel_rfl) (fun _ _ _ h => h) (Or.inl ⟨by rfl, ?_⟩) hHeld ?_
                rotate_left
                · intro w hSw; have zc0 := keepc hSw c0; have zc1 := keepc hSw c1; have zc2 := keepc hSw c2; clear hSw; go_simp <;> with_reducible rfl
                (try simp only [Act.put, List.setIfInBounds_toArray, List.set_cons_zero, List.set_cons_succ])
                refine wpAnyH_done (by kernel_rfl) ?_ _
                replace hb := chn hb hHeld; clear hHeld
                go_wp2
                go_roundw
                case rel => exact ⟨(k+1+1), by omega, by go_num, ASK.out HUQ.out (fun h => (by exfalso; omega)), by repeat (first | exact hb | refine Below.alloc ?_ (by have := hb.size; simp; try omega) _)⟩
                case measure => simp [intOf]; omega
        · obtain rfl : r = false := HNO.out (fun h => by have := mless_at xs k f ⟨ep, ek, ex⟩ HFF.out h.2.1; rw [hle] at this; cases this)
          rcases hk1 with n1 | ⟨n1, q1⟩
          all_goals
            go_wp2_with fail
            refine (sPathOk_c ep true HP1 _ HZ1.out).mono ?_; rintro e W ⟨rfl, hq⟩; replace hb := chn hb hq; replace c0 := keepc hq c0; replace c1 := keepc hq c1; replace c2 := keepc hq c2; replace c3 := keepc hq c3; clear hq
            go_wp2_with fail
            refine (l2Data_c ex true HP2 _ HZ2.out).mono ?_; rintro e' W' ⟨rfl, rfl⟩
            go_wp2_with fail
            refine wp_region_held_drew (S := fun w' => Below _ _ w') (by kernel_rfl) (below_drew _) (fun hHeld => ?_)
            refine tk (i := 0) (d := (some 45)) (v := ?_) rfl rfl (by kernel_rfl) (by kernel_rfl) (by kernel_rfl) (fun _ _ _ h => h) (Or.inl ⟨by rfl, ?_⟩) hHeld ?_
            rotate_left
            · intro w hSw; have zc0 := keepc hSw c0; have zc1 := keepc hSw c1; have zc2 := keepc hSw c2; have zc3 := keepc hSw c3; clear hSw; go_simp <;> with_reducible rfl
            (try simp only [Act.put, List.setIfInBounds_toArray, List.set_cons_zero, List.set_cons_succ])
            refine tk (i := 1) (d := (some 46)) (v := ?_) rfl rfl (by kernel_rfl) (by kernel_rfl) (by kernel_rfl) (fun _ _ _ h => h) (Or.inl ⟨by rfl, ?_⟩) hHeld ?_
            rotate_left
            · intro w hSw; have zc0 := keepc hSw c0; have zc1 := keepc hSw c1; have zc2 := keepc hSw c2; have zc3 := keepc hSw c3; clear hSw; go_simp <;> with_reducible rfl
            (try simp only [Act.put, List.setIfInBounds_toArray, List.set_cons_zero, List.set_cons_succ])
            refine tk (i := 2) (d := (some 47)) (v := ?_) rfl rfl (by kernel_rfl) (by kernel_rfl) (by kernel_rfl) (fun _ _ _ h => h) (Or.inl ⟨by rfl, ?_⟩) hHeld ?_
            rotate_left
            · intro w hSw; have zc0 := keepc hSw c0; have zc1 := keepc hSw c1; have zc2 := keepc hSw c2; have zc3 := keepc hSw c3; clear hSw; go_simp <;> with_reducible rfl
            (try simp only [Act.put, List.setIfInBounds_toArray, List.set_cons_zero, List.set_cons_succ])
            refine tk (i := 3) (d := (some 48)) (v := ?_) rfl rfl (by kernel_rfl) (by kernel_rfl) (by kernel_rfl) (fun _ _ _ h => h) (Or.inl ⟨by rfl, ?_⟩) hHeld ?_
            rotate_left
            · intro w hSw; have zc0 := keepc hSw c0; have zc1 := keepc hSw c1; have zc2 := keepc hSw c2; have zc3 := keepc hSw c3; clear hSw; go_simp <;> with_reducible rfl
            (try simp only [Act.put, List.setIfInBounds_toArray, List.set_cons_zero, List.set_cons_succ])
            refine tk (i := 4) (d := (some 49)) (v := ?_) rfl rfl (by kernel_rfl) (by kernel_rfl) (by kernel_rfl) (fun _ _ _ h => h) (Or.inl ⟨by rfl, ?_⟩) hHeld ?_
            rotate_left
            · intro w hSw; have zc0 := keepc hSw c0; have zc1 := keepc hSw c1; have zc2 := keepc hSw c2; have zc3 := keepc hSw c3; clear hSw; go_simp <;> with_reducible rfl
            (try simp only [Act.put, List.setIfInBounds_toArray, List.set_cons_zero, List.set_cons_succ])
            refine tk (i := 5) (d := (some 50)) (v := ?_) rfl rfl (by kernel_rfl) (by kernel_rfl) (by kernel_rfl) (fun _ _ _ h => h) (Or.inl ⟨by rfl, ?_⟩) hHeld ?_
            rotate_left
            · intro w hSw; have zc0 := keepc hSw c0; have zc1 := keepc hSw c1; have zc2 := keepc hSw c2; have zc3 := keepc hSw c3; clear hSw; go_simp <;> with_reducible rfl
            (try simp only [Act.put, List.setIfInBounds_toArray, List.set_cons_zero, List.set_cons_succ])
            refine tk (i := 6) (d := (some 51)) (v := ?_) rfl rfl (by kernel_rfl) (by kernel_rfl) (by kernel_rfl) (fun _ _ _ h => h) (Or.inl ⟨by rfl, ?_⟩) hHeld ?_
            rotate_left
            · intro w hSw; have zc0 := keepc hSw c0; have zc1 := keepc hSw c1; have zc2 := keepc hSw c2; have zc3 := keepc hSw c3; clear hSw; go_simp <;> with_reducible rfl
            (try simp only [Act.put, List.setIfInBounds_toArray, List.set_cons_zero, List.set_cons_succ])
            refine tk (i := 7) (d := (some 52)) (v := ?_) rfl rfl (by kernel_rfl) (by kernel_rfl) (by kernel_rfl) (fun _ _ _ h => h) (Or.inl ⟨by rfl, ?_⟩) hHeld ?_
            rotate_left
            · intro w hSw; have zc0 := keepc hSw c0; have zc1 := keepc hSw c1; have zc2 := keepc hSw c2; have zc3 := keepc hSw c3; clear hSw; go_simp <;> with_reducible rfl
            (try simp only [Act.put, List.setIfInBounds_toArray, List.set_cons_zero, List.set_cons_succ])
            refine tk (i := 8) (d := (some 53)) (v := ?_) rfl rfl (by kernel_rfl) (by kernel_rfl) (by kernel_rfl) (fun _ _ _ h => h) (Or.inl ⟨by rfl, ?_⟩) hHeld ?_
            rotate_left
            · intro w hSw; have zc0 := keepc hSw c0; have zc1 := keepc hSw c1; have zc2 := keepc hSw c2; have zc3 := keepc hSw c3; clear hSw; go_simp <;> with_reducible rfl
            (try simp only [Act.put, List.setIfInBounds_toArray, List.set_cons_zero, List.set_cons_succ])
            refine tk (i := 9) (d := (some 54)) (v := ?_) rfl rfl (by kernel_rfl) (by kernel_rfl) (by kernel_rfl) (fun _ _ _ h => h) (Or.inl ⟨by rfl, ?_⟩) hHeld ?_
            rotate_left
            · intro w hSw; have zc0 := keepc hSw c0; have zc1 := keepc hSw c1; have zc2 := keepc hSw c2; have zc3 := keepc hSw c3; clear hSw; go_simp <;> with_reducible rfl
            (try simp only [Act.put, List.setIfInBounds_toArray, List.set_cons_zero, List.set_cons_succ])
            refine tk (i := 10) (d := (some 55)) (v := ?_) rfl rfl (by kernel_rfl) (by kernel_rfl) (by kernel_rfl) (fun _ _ _ h => h) (Or.inl ⟨by rfl, ?_⟩) hHeld ?_
            rotate_left
            · intro w hSw; have zc0 := keepc hSw c0; have zc1 := keepc hSw c1; have zc2 := keepc hSw c2; have zc3 := keepc hSw c3; clear hSw; go_simp <;> with_reducible rfl
            (try simp only [Act.put, List.setIfInBounds_toArray, List.set_cons_zero, List.set_cons_succ])
            refine tk (i := 11) (d := (some 56)) (v := ?_) rfl rfl (by kernel_rfl) (by kernel_rfl) (by kernel_rfl) (fun _ _ _ h => h) (Or.inl ⟨by rfl, ?_⟩) hHeld ?_
            rotate_left
            · intro w hSw; have zc0 := keepc hSw c0; have zc1 := keepc hSw c1; have zc2 := keepc hSw c2; have zc3 := keepc hSw c3; clear hSw; go_simp <;> with_reducible rfl
            (try simp only [Act.put, List.setIfInBounds_toArray, List.set_cons_zero, List.set_cons_succ])
            refine tk (i := 12) (d := (some 57)) (v := ?_) rfl rfl (by kernel_rfl) (by kernel_rfl) (by kernel_rfl) (fun _ _ _ h => h) (Or.inl ⟨by rfl, ?_⟩) hHeld ?_
            rotate_left
            · intro w hSw; have zc0 := keepc hSw c0; have zc1 := keepc hSw c1; have zc2 := keepc hSw c2; have zc3 := keepc hSw c3; clear hSw; go_simp <;> with_reducible rfl
            (try simp only [Act.put, List.setIfInBounds_toArray, List.set_cons_zero, List.set_cons_succ])
            refine tk (i := 13) (d := (some 58)) (v := ?_) rfl rfl (by kernel_rfl) (by kernel_rfl) (by kernel_rfl) (fun _ _ _ h => h) (Or.inl ⟨by rfl, ?_⟩) hHeld ?_
            rotate_left
            · intro w hSw; have zc0 := keepc hSw c0; have zc1 := keepc hSw c1; have zc2 := keepc hSw c2; have zc3 := keepc hSw c3; clear hSw; go_simp <;> with_reducible rfl
            (try simp only [Act.put, List.setIfInBounds_toArray, List.set_cons_zero, List.set_cons_succ])
            refine tk (i := 14) (d := (some 59)) (v := undef) rfl rfl (by kernel_rfl) (by kernel_rfl) (by kernel_rfl) (fun _ _ _ h => h) (Or.inr ⟨by kernel_rfl, rfl⟩) hHeld ?_
            (try simp only [Act.put, List.setIfInBounds_toArray, List.set_cons_zero, List.set_cons_succ])
            refine tk (i := 15) (d := (some 60)) (v := undef) rfl rfl (by kernel_rfl) (by kernel_rfl) (by kernel_rfl) (fun _ _ _ h => h) (Or.inr ⟨by kernel_rfl, rfl⟩) hHeld ?_
            (try simp only [Act.put, List.setIfInBounds_toArray, List.set_cons_zero, List.set_cons_succ])
            refine tk (i := 16) (d := (some 61)) (v := undef) rfl rfl (by kernel_rfl) (by kernel_rfl) (by kernel_rfl) (fun _ _ _ h => h) (Or.inr ⟨by kernel_rfl, rfl⟩) hHeld ?_
            (try simp only [Act.put, List.setIfInBounds_toArray, List.set_cons_zero, List.set_cons_succ])
            refine tk (i := 17) (d := (some 62)) (v := undef) rfl rfl (by kernel_rfl) (by kernel_rfl) (by kernel_rfl) (fun _ _ _ h => h) (Or.inr ⟨by kernel_rfl, rfl⟩) hHeld ?_
            (try simp only [Act.put, List.setIfInBounds_toArray, List.set_cons_zero, List.set_cons_succ])
            refine tk (i := 18) (d := (some 63)) (v := undef) rfl rfl (by kernel_rfl) (by kernel_rfl) (by kernel_rfl) (fun _ _ _ h => h) (Or.inr ⟨by kernel_rfl, rfl⟩) hHeld ?_
            (try simp only [Act.put, List.setIfInBounds_toArray, List.set_cons_zero, List.set_cons_succ])
            refine tk (i := 19) (d := (some 64)) (v := undef) rfl rfl (by kernel_rfl) (by kernel_rfl) (by kernel_rfl) (fun _ _ _ h => h) (Or.inr ⟨by kernel_rfl, rfl⟩) hHeld ?_
            (try simp only [Act.put, List.setIfInBounds_toArray, List.set_cons_zero, List.set_cons_succ])
            refine tk (i := 20) (d := (some 65)) (v := undef) rfl rfl (by kernel_rfl) (by kernel_rfl) (by kernel_rfl) (fun _ _ _ h => h) (Or.inr ⟨by kernel_rfl, rfl⟩) hHeld ?_
            (try simp only [Act.put, List.setIfInBounds_toArray, List.set_cons_zero, List.set_cons_succ])
            refine tk (i := 21) (d := (some 66)) (v := ?_) rfl rfl (by kernel_rfl) (by kernel_rfl) (by kernel_rfl) (fun _ _ _ h => h) (Or.inl ⟨by rfl, ?_⟩) hHeld ?_
            rotate_left
            · intro w hSw; have zc0 := keepc hSw c0; have zc1 := keepc hSw c1; have zc2 := keepc hSw c2; have zc3 := keepc hSw c3; clear hSw; go_simp <;> with_reducible rfl
            (try simp only [Act.put, List.setIfInBounds_toArray, List.set_cons_zero, List.set_cons_succ])
            refine wpAnyH_done (by kernel_rfl) ?_ _
            replace hb := chn hb hHeld; clear hHeld
            go_wp2
            go_ret
            exact ⟨rfl, by repeat (first | exact hb | refine Below.alloc ?_ (by have := hb.size; simp; try omega) _)⟩
    · have HFIN : Hid (n ≤ 32 → r = true) := fun h => hR.out.2 ⟨h, fun j e he => HA.out j e (by have := (List.getElem?_eq_some_iff.1 he).1; rw [HN.out] at this; omega) he⟩
      by_cases h32 : n ≤ 32
      · obtain rfl : r = true := HFIN.out h32
        go_wp2
        go_ret
        exact ⟨ret_bool (by simp; try omega), hb⟩
      · obtain rfl : r = false := by
          cases r
          · rfl
          · have := (hR.out.1 rfl).1; omega
        go_wp2
        go_ret
        exact ⟨ret_bool (by simp; try omega), hb⟩
end Go.Proofs.YtdhbdcmnbhjjaaaGreatDoor
namespace Go.Proofs.YtdhbdcmnbhjjaaaGreatDoor
open Go.RowKit
/-- Marks with short texts. -/
def SmallM (xs : List Mk) : Prop := ∀ e ∈ xs, e.p.size ≤ 20 ∧ e.x.size ≤ 20
theorem SmallM.mil {xs : List Mk} (h : SmallM xs) : ∀ e ∈ xs, e.p.size ≤ 2000000 ∧ e.x.size ≤ 2000000 := fun e he => by have := h e he; omega
/-- Marks with short texts, and paths of which F says yes. -/
def SmM (F : ByteArray → Bool) (xs : List Mk) : Prop := ∀ e ∈ xs, (e.p.size ≤ 20 ∧ e.x.size ≤ 20) ∧ F e.p = true
theorem SmM.small {F : ByteArray → Bool} {xs : List Mk} (h : SmM F xs) : SmallM xs := fun e he => (h e he).1
theorem lok_small {xs : List Mk} (h : LOk (xs.map Mk.pl)) : SmallM xs := fun e he => by
  have h1 := h.mks e.pl (List.mem_map_of_mem he)
  unfold markOkL at h1
  simp only [Bool.and_eq_true] at h1
  have h2 := (path_len h1.1.1.2).2
  have h3 := data_len h1.1.2
  have h4 : e.pl.p.length = e.p.size := size_data e.p
  have h5 : e.pl.x.length = e.x.size := size_data e.x
  omega
theorem lok_kinds {xs : List Mk} (h : LOk (xs.map Mk.pl)) : ∀ m ∈ xs, m.k ≠ 0 := fun e he hk => by
  have h1 := h.mks e.pl (List.mem_map_of_mem he)
  unfold markOkL at h1
  simp only [Bool.and_eq_true, decide_eq_true_eq] at h1
  have h2 : e.pl.k = e.k := rfl
  omega
/-- A slice of marks with an array behind it, that can be read. -/
def RdMk (w : World) (a : Option Addr) (c : Nat) (xs : List Mk) : Prop := ∃ b off, a = some ⟨b, off, none⟩ ∧ b < w.heap.size ∧ SlF Mk.cells w (some ⟨b, off, none⟩) xs ∧ xs.length ≤ c ∧ c ≤ maxLen
theorem RdMk.below {w w' : World} {a : Option Addr} {c : Nat} {xs : List Mk} (h : RdMk w a c xs) (hq : Below w.heap.size w w') : RdMk w' a c xs := by
  obtain ⟨b, off, h1, h2, h3, h4⟩ := h
  exact ⟨b, off, h1, Nat.lt_of_lt_of_le h2 hq.size, h3.below hq, h4⟩
theorem RdMk.sl {w : World} {a : Option Addr} {c : Nat} {xs : List Mk} (h : RdMk w a c xs) : SlF Mk.cells w a xs := by
  obtain ⟨b, off, rfl, _, h3, _⟩ := h; exact h3
theorem RdMk.cap {w : World} {a : Option Addr} {c : Nat} {xs : List Mk} (h : RdMk w a c xs) : xs.length ≤ c := by
  obtain ⟨b, off, _, _, _, h4, _⟩ := h; exact h4
/-- A slice of marks that was made behind block g. -/
def DrawnM (w : World) (g : Nat) (a : Option Addr) (c : Nat) (xs : List Mk) : Prop := ∃ b off, a = some ⟨b, off, none⟩ ∧ g < b ∧ b < w.heap.size ∧ SlF Mk.cells w (some ⟨b, off, none⟩) xs ∧ xs.length ≤ c ∧ c ≤ maxLen
theorem DrawnM.read {w : World} {g : Nat} {a : Option Addr} {c : Nat} {xs : List Mk} (h : DrawnM w g a c xs) : RdMk w a c xs := by
  obtain ⟨b, off, h1, _, h2⟩ := h; exact ⟨b, off, h1, h2⟩
theorem DrawnM.only {w w' : World} {g : Nat} {a : Option Addr} {c : Nat} {xs : List Mk} (h : DrawnM w g a c xs) (ho : Only g w w') : DrawnM w' g a c xs := by
  obtain ⟨b, off, h1, h2, h3, h4, h5⟩ := h
  exact ⟨b, off, h1, h2, Nat.lt_of_lt_of_le h3 ho.size, h4.grown ho (fun b' hb' e => by injection hb' with hb'; injection e with e; simp at hb'; omega), h5⟩
theorem OwnRd.drawn {w : World} {B g : Nat} {v : Value} {ms : List Mk} (h : OwnRd w B v ms) (hg : g < B) : ∃ a c, v = .slice a ms.length c ∧ DrawnM w g a c ms := by
  obtain ⟨b, c, h1, h2, h3, h4⟩ := h
  exact ⟨_, c, h1, b, 0, rfl, Nat.lt_of_lt_of_le hg (h4.lt b rfl).1, (h4.lt b rfl).2, own_slf (fun _ => rfl) h4, h2, h3⟩
theorem OwnRd.only {w w' : World} {B g : Nat} {v : Value} {ms : List Mk} (h : OwnRd w B v ms) (ho : Only g w w') (hg : g < B) : OwnRd w' B v ms := by
  obtain ⟨b, c, h1, h2, h3, h4⟩ := h
  exact ⟨b, c, h1, h2, h3, own_only h4 ho hg⟩
theorem OwnRd.slf {w : World} {B : Nat} {v : Value} {ms : List Mk} (h : OwnRd w B v ms) : ∃ a c, v = .slice a ms.length c ∧ ms.length ≤ c ∧ SlF Mk.cells w a ms := by
  obtain ⟨b, c, h1, h2, h3, h4⟩ := h
  exact ⟨_, c, h1, h2, own_slf (fun _ => rfl) h4⟩
theorem mownRe_of {w : World} {B : Nat} {v : Value} {ms : List Mk} (h : w.ownsRow B 43 3 v ms.length (ms.flatMap Mk.cells)) (hv : v.ownBlock ≠ none) : OwnRd w B v ms := by
  have h0 := h
  rcases h.2 with ⟨rfl, h1⟩ | ⟨g, cap, cur, rfl, hg, hh, hnc, hm, h2, h3⟩
  · exact absurd rfl hv
  · exact ⟨g, cap, rfl, hnc, hm, h0⟩
/-- A number of which F says yes. -/
def okInt (F : Int → Bool) (v : Value) : Bool := match v with | .int .i64 z => F z | _ => false
theorem okInt_at {F : Int → Bool} {cs : Array Value} (h : cs.toList.all (okInt F) = true) {k : Nat} (hk : k < cs.size) : ∃ z : Int, cs[k]? = some (.int .i64 z) ∧ F z = true := by
  have h1 := List.all_eq_true.1 h cs[k] (by simp)
  have h2 : cs[k]? = some cs[k] := Array.getElem?_eq_getElem hk
  unfold okInt at h1
  split at h1
  · next z hz => exact ⟨z, by rw [h2, hz], h1⟩
  · cases h1
/-- What a drawing of a number of which F says yes leaves. -/
def IntOf (F : Int → Bool) (w : World) (g p q : Nat) (e : Ending) (w' : World) : Prop :=
  ∃ (z : Int) (p' : Nat), e = .returned (.int .i64 z) ∧ F z = true ∧ p' ≤ p + q ∧ Rd w' g p' ∧ Only g w w'
set_option maxHeartbeats 1000000 in
theorem numF_c (F : Int → Bool) (w : World) (g p b n : Nat) (cs : Array Value) (t : TypeId) (hr : Rd w g p) (hp : p ≤ 1000000) (hb : w.heap[b]? = some (.cells cs t (0, 0))) (hbg : b ≠ g) (hn : cs.size = n) (h0 : 0 < n) (hn1 : n ≤ 1000) (hs : cs.toList.all (okInt F) = true) :
    Calls Tryz.prog 69 #[.pointer (some ⟨g, 0, none⟩), .slice (some ⟨b, 0, none⟩) n n] w (IntOf F w g p 1) := by
  have hbl : b < w.heap.size := by
    rcases Nat.lt_or_ge b w.heap.size with h | h
    · exact h
    · rw [Array.getElem?_eq_none h] at hb; cases hb
  have HP := Lib.hid (pick_c w g p (n : Int) hr hp (by omega) (by omega))
  have HC : Hid (∀ w1 (m : Nat), Only g w w1 → m < n → ∃ z : Int, w1.cell? ⟨b, m, none⟩ = some (.int .i64 z) ∧ F z = true) := fun w1 m ho hm => by
    obtain ⟨z, h1, h2⟩ := okInt_at hs (k := m) (by omega)
    refine ⟨z, ?_, h2⟩
    rw [cell_of_row w1 b m cs t (0, 0) ((ho.block b hbl (by simpa using hbg)).trans hb)]
    exact h1
  clear hb hs hn hbg hr
  go_enter Tryz.func69, Tryz.ntmps69
  go_wp2_with fail
  refine HP.out.mono ?_
  rintro e w1 ⟨m, rfl, _, hm, hrd, ho⟩
  have hm' : m < n := by have := hm (by omega); omega
  obtain ⟨z, hc, hz⟩ := HC.out w1 m ho hm'
  clear hm
  go_wp2
  go_ret
  exact ⟨z, p + 1, rfl, hz, Nat.le_refl _, hrd, ho⟩
/-- The kind of a mark. -/
def kindOk (z : Int) : Bool := decide (1 ≤ z) && decide (z ≤ 4)
theorem kindOk_ne {z : Int} (h : kindOk z = true) : z ≠ 0 := by unfold kindOk at h; simp only [Bool.and_eq_true, decide_eq_true_eq] at h; omega
/-- All that stands in a layer is low. -/
def LowM (l : List PM) : Prop := ∀ m ∈ l, lowL m.p = true
theorem low_put {t : List PM} (ht : LowM t) {m : PM} (hm : lowL m.p = true) : LowM (putP PM.p t m) := by
  induction t with
  | nil => intro e he; simp [putP] at he; rw [he]; exact hm
  | cons x r ih =>
    have h1 : lowL x.p = true := ht x (by simp)
    have h2 : LowM r := fun e he => ht e (by simp [he])
    intro e he
    rw [putP] at he
    split at he
    · rcases List.mem_cons.1 he with rfl | he
      · exact h1
      · exact ih h2 e he
    · split at he
      · rcases List.mem_cons.1 he with rfl | he
        · exact hm
        · exact h2 e he
      · rcases List.mem_cons.1 he with rfl | he
        · exact hm
        · exact ht e he
theorem low_up {q : Bs} (h : pathOkL q = true) (hr : upL q ≠ [47]) (hq : lowL q = true) : lowL (upL q) = true := by
  obtain ⟨x, hx⟩ := under_pre (up_under h) (up_path h hr)
  rw [hx, low_app (path_len (up_path h hr)).1] at hq
  exact hq
theorem low_ups (n : Nat) : ∀ {l : List PM} {q : Bs}, LowM l → pathOkL q = true → lowL q = true → LowM (upsL n l q) := by
  induction n with
  | zero => intro l q hl _ _; exact hl
  | succ n ih =>
    intro l q hl hp hq
    rw [upsL]
    split
    · exact hl
    · next hr =>
      have h1 := up_path hp hr
      have h2 := low_up hp hr hq
      split
      · exact ih (low_put hl h2) h1 h2
      · exact ih hl h1 h2
/-- Marks with short texts, in plain words. -/
def ShortM (l : List PM) : Prop := ∀ m ∈ l, m.p.length ≤ 20 ∧ m.x.length ≤ 20
theorem short_put {t : List PM} (ht : ShortM t) {m : PM} (hm : m.p.length ≤ 20 ∧ m.x.length ≤ 20) : ShortM (putP PM.p t m) := by
  induction t with
  | nil => intro e he; simp [putP] at he; rw [he]; exact hm
  | cons x r ih =>
    have h1 := ht x (by simp)
    have h2 : ShortM r := fun e he => ht e (by simp [he])
    intro e he
    rw [putP] at he
    split at he
    · rcases List.mem_cons.1 he with rfl | he
      · exact h1
      · exact ih h2 e he
    · split at he
      · rcases List.mem_cons.1 he with rfl | he
        · exact hm
        · exact h2 e he
      · rcases List.mem_cons.1 he with rfl | he
        · exact hm
        · exact ht e he
theorem short_ups (n : Nat) : ∀ {l : List PM} {q : Bs}, ShortM l → pathOkL q = true → ShortM (upsL n l q) := by
  induction n with
  | zero => intro l q hl _; exact hl
  | succ n ih =>
    intro l q hl hp
    rw [upsL]
    split
    · exact hl
    · next hr =>
      have h1 := up_path hp hr
      have h2 := (path_len h1).2
      split
      · exact ih (short_put hl ⟨show (upL q).length ≤ 20 by omega, by simp⟩) h1
      · exact ih hl h1
theorem short_small {xs : List Mk} (h : ShortM (xs.map Mk.pl)) : SmallM xs := fun e he => by
  have h1 := h e.pl (List.mem_map_of_mem he)
  have h4 : e.pl.p.length = e.p.size := size_data e.p
  have h5 : e.pl.x.length = e.x.size := size_data e.x
  omega
theorem small_short {xs : List Mk} (h : SmallM xs) : ShortM (xs.map Mk.pl) := fun m hm => by
  obtain ⟨e, he, rfl⟩ := List.mem_map.1 hm
  have h1 := h e he
  have h4 : e.pl.p.length = e.p.size := size_data e.p
  have h5 : e.pl.x.length = e.x.size := size_data e.x
  omega
/-- What a drawing of a layer leaves. -/
def LayerPost (w : World) (g p q : Nat) (e : Ending) (w' : World) : Prop :=
  ∃ (a : Option Addr) (c : Nat) (xs : List Mk) (p' : Nat), e = .returned (.slice a xs.length c) ∧ DrawnM w' g a c xs ∧ LOk (xs.map Mk.pl) ∧ LowM (xs.map Mk.pl) ∧ p' ≤ p + q ∧ Rd w' g p' ∧ Only g w w'
/-- The state of a layer that is drawn. -/
def LayerIn (w0 w : World) (g p : Nat) (v : Value) : Prop :=
  ∃ ms : List Mk, OwnRd w w0.heap.size v ms ∧ LOk (ms.map Mk.pl) ∧ LowM (ms.map Mk.pl) ∧ Rd w g p ∧ Only g w0 w
theorem mlok_dec (xs : List Mk) : ∃ r : Bool, r = true ↔ LOk (xs.map Mk.pl) := ⟨by classical exact decide (LOk (xs.map Mk.pl)), by simp⟩
theorem pathT_ok {s : ByteArray} (h : pathT s = true) : pathOkL s.data.toList = true := by unfold pathT at h; simp only [Bool.and_eq_true] at h; exact h.1
set_option maxRecDepth 100000 in
set_option maxHeartbeats 8000000 in
theorem l3Layer_c (w : World) (g p : Nat) (hr : Rd w g p) (hp : p ≤ 500000) :
    Calls Tryz.prog 43 #[.pointer (some ⟨g, 0, none⟩)] w (LayerPost w g p 2000) := by
  have hg := hr.lt
  have HR := Lib.hid hr
  clear hr
  have hs0 : (w.alloc (.cells #[] 43)).heap.size = w.heap.size + 1 := by simp
  have HRD0 := Lib.hid (HR.out.alloc (.cells #[] 43))
  have HOW0 : Hid (OwnRd (w.alloc (.cells #[] 43)) w.heap.size (.slice (some ⟨w.heap.size, 0, none⟩) 0 0) []) := ⟨w.heap.size, 0, rfl, Nat.zero_le _, Nat.zero_le _, World.ownsRow_lit w #[] 0 (Nat.le_refl _) (Nat.zero_le _) rfl⟩
  have HO0 := Lib.hid ((Only.refl g w).alloc (.cells #[] 43))
  have HNUM := Lib.hid (fun (cs : Array Value) (n : Nat) (hn : Hid (cs.size = n)) h0 h1 hs => num_c ((w.alloc (.cells #[] 43)).alloc (.cells cs 3)) g p (w.heap.size + 1) n cs 3 (HRD0.out.alloc _) (by omega) (by rw [← hs0]; exact heap_alloc_new _ _) (by omega) hn.out h0 h1 hs)
  clear hs0
  go_enter Tryz.func43, Tryz.ntmps43
  go_wp2_with fail
  refine (HNUM.out _ _ (by exact Lib.hid rfl) (by decide) (by decide) (by rfl)).mono ?_
  rintro e w1 ⟨z, p1, rfl, hz1, hz2, hp1, hrd1, ho1⟩
  have HT1 : Hid (LayerIn w w1 g p1 (.slice (some ⟨w.heap.size, 0, none⟩) 0 0)) := ⟨[], (HOW0.out.below (bellow_alloc _ _)).only ho1 hg, lok_nil, (fun m h => by simp at h), hrd1, (HO0.out.alloc _).trans ho1⟩
  clear hrd1 ho1 HNUM HOW0 HRD0 HO0
  go_wp2
  go_loopw [3, 4] (fun v i wr => ∃ (z' : Int) (p' : Nat), i = .int .i64 z' ∧ -10 ≤ z' ∧ z' ≤ 100 ∧ p' + 3 * z'.toNat ≤ p + 1001 ∧ LayerIn w wr g p' v) (fun _ i _ => (intOf i).toNat)
  case atStart => exact ⟨z, p1, rfl, hz1, hz2, by omega, HT1.out⟩
  case round =>
    obtain ⟨z', p', rfl, hz1', hz2', hpz, ms, ⟨b0, cc0, rfl, k1, k2, k3⟩, hlok, hlow, hrd, ho⟩ := hrel
    have HOW : Hid (OwnRd wr w.heap.size (.slice (some ⟨b0, 0, none⟩) ms.length cc0) ms) := ⟨b0, cc0, rfl, k1, k2, k3⟩
    obtain ⟨m0, hm0⟩ : ∃ m, ms.length = m := ⟨_, rfl⟩
    rw [hm0] at HOW ⊢
    have HM0 := Lib.hid hm0
    have HLK := Lib.hid hlok
    have HLW := Lib.hid hlow
    have HO := Lib.hid ho
    have hBr := ho.size
    clear k1 k2 k3 hm0 hlok hlow ho
    by_cases hpos : 0 < z'
    · have HL := Lib.hid (l1PathT_c wr g p' hrd (by omega))
      clear hrd
      go_wp2_with fail
      refine HL.out.mono ?_; rintro e w2 ⟨s, p2, rfl, hs, hp2, hrd2, ho2⟩
      have HNUM := Lib.hid (fun (cs : Array Value) (n : Nat) (hn : Hid (cs.size = n)) h0 h1 hs => numF_c kindOk (w2.alloc (.cells cs 3)) g p2 w2.heap.size n cs 3 (hrd2.alloc _) (by omega) (heap_alloc_new w2 _) (by have := hrd2.lt; omega) hn.out h0 h1 hs)
      have hsz2 := ho2.size
      have HO2 := Lib.hid ho2
      clear hrd2 ho2 HL
      go_wp2_with fail
      refine (HNUM.out _ _ (by exact Lib.hid rfl) (by decide) (by decide) (by kernel_rfl)).mono ?_
      rintro e w3 ⟨k, p3, rfl, hk, hp3, hrd3, ho3⟩
      obtain ⟨b, hb⟩ : ∃ b, w3.heap.size = b := ⟨_, rfl⟩
      have hO3 := (HO2.out.alloc _).trans ho3
      have hwb : wr.heap.size ≤ b := by rw [← hb]; exact hO3.size
      have hgb : g < b := by omega
      have HO4 := Lib.hid (hO3.alloc (.cells #[.string s, .int .i64 k, .string ⟨#[]⟩] 43))
      have HR4 := Lib.hid (hrd3.alloc (.cells #[.string s, .int .i64 k, .string ⟨#[]⟩] 43))
      have e0 := new_cell w3 #[.string s, .int .i64 k, .string ⟨#[]⟩] 43 0 _ rfl
      have e1 := new_cell w3 #[.string s, .int .i64 k, .string ⟨#[]⟩] 43 1 _ rfl
      have e2 := new_cell w3 #[.string s, .int .i64 k, .string ⟨#[]⟩] 43 2 _ rfl
      have f2 := new_free w3 #[.string s, .int .i64 k, .string ⟨#[]⟩] 43 2
      have hsz4 : (w3.alloc (.cells #[.string s, .int .i64 k, .string ⟨#[]⟩] 43)).heap.size = b + 1 := by simp [hb]
      clear hO3 hrd3 ho3 HNUM HO2
      go_upto_if 23 with fail
      generalize hW : w3.alloc (.cells #[.string s, .int .i64 k, .string ⟨#[]⟩] 43) = W at HO4 HR4 e0 e1 e2 f2 hsz4 ⊢
      rw [hb] at e0 e1 e2 f2
      (try rw [hb])
      clear hW hb
      by_cases hk1 : k = 1
      · have hkb : (k == 1) = true := by rw [beq_iff_eq]; exact hk1
        clear hk1
        have HP1 := Lib.hid (l2Some_c W g p3 HR4.out (by omega))
        go_wp2_with fail
        refine HP1.out.mono ?_; rintro e w5 ⟨d, p5, rfl, hd, hp5, hrd5, ho5⟩
        have e0 := cell_only ho5 e0 (by show b ≠ g; omega)
        have e1 := cell_only ho5 e1 (by show b ≠ g; omega)
        have e2 := cell_only ho5 e2 (by show b ≠ g; omega)
        have f2 := (frozen_only (a := ⟨b, 2, none⟩) ho5 (by show b < _; omega) (by show b ≠ g; omega)).trans f2
        have HOX := Lib.hid ((HO4.out.trans ho5).setCell (p := ⟨b, 2, none⟩) (.inr hwb) (.string d))
        have HRX := Lib.hid (hrd5.set ⟨b, 2, none⟩ (.string d) hgb)
        have HSX : Hid (w.heap.size ≤ (w5.setCell ⟨b, 2, none⟩ (.string d)).heap.size) := Nat.le_trans hBr HOX.out.size
        have HGX : Hid (g < (w5.setCell ⟨b, 2, none⟩ (.string d)).heap.size) := HRX.out.lt
        have HSD : Hid (s.data.toList.length ≤ 20 ∧ d.data.toList.length ≤ 20) := ⟨by rw [size_data]; exact goodT_size (pathT_good hs), by rw [size_data]; exact hd⟩
        have x0 := (World.cell?_setCell_other w5 ⟨b, 2, none⟩ ⟨b, 0, none⟩ (.string d) (by simp)).trans e0
        have x1 := (World.cell?_setCell_other w5 ⟨b, 2, none⟩ ⟨b, 1, none⟩ (.string d) (by simp)).trans e1
        have x2 := World.cell?_setCell_same w5 ⟨b, 2, none⟩ (.string d) e2
        clear hrd5 ho5 HP1 HR4 HO4
        go_upto_region 8 with fail
        generalize w5.setCell ⟨b, 2, none⟩ (.string d) = W6 at HOX HRX HSX HGX x0 x1 x2 ⊢
        clear e0 e1 e2 f2
        have e0 := x0
        have e1 := x1
        have e2 := x2
        clear x0 x1 x2
        have HP := Lib.hid (l3PutO_c w.heap.size (.slice (some ⟨b0, 0, none⟩) m0 cc0) ms ⟨s, k, d⟩ W6 (HOW.out.only HOX.out hg) HSX.out (by have := HLK.out.most; rw [List.length_map] at this; omega))
        go_wp2_with fail
        refine HP.out.mono ?_; rintro e w6 ⟨v6, rfl, how6, hq6⟩
        have hpm : (putP Mk.bs ms ⟨s, k, d⟩).map Mk.pl = putP PM.p (ms.map Mk.pl) (Mk.pl ⟨s, k, d⟩) := putP_map Mk.pl (f := Mk.bs) (g := PM.p) (fun _ => rfl) _ _
        have hlow6 : LowM ((putP Mk.bs ms ⟨s, k, d⟩).map Mk.pl) := by rw [hpm]; exact low_put HLW.out (good_low.1 (pathT_good hs)).2
        have hsh6 : ShortM ((putP Mk.bs ms ⟨s, k, d⟩).map Mk.pl) := by rw [hpm]; exact short_put (small_short (lok_small HLK.out)) HSD.out
        have hln6 : (putP Mk.bs ms ⟨s, k, d⟩).length ≤ 40 := by have h1 := HLK.out.most; rw [List.length_map] at h1; have h2 := mput_len ms ⟨s, k, d⟩; omega
        have hkn6 := kinds_put (lok_kinds HLK.out) (e := ⟨s, k, d⟩) (kindOk_ne hk)
        obtain ⟨xs6, hxs6⟩ : ∃ xs6, putP Mk.bs ms ⟨s, k, d⟩ = xs6 := ⟨_, rfl⟩
        rw [hxs6] at how6 hlow6 hsh6 hln6 hkn6
        obtain ⟨r6, hr6⟩ := mlok_dec xs6
        obtain ⟨a6, c6, rfl, hc6, hsl6⟩ := how6.slf
        have HK := Lib.hid (sLayerOk_c a6 c6 xs6 r6 (Lib.hid hr6) w6 hsl6 (by unfold maxLen; omega) hc6 (short_small hsh6).mil)
        have g0 := keepc hq6 e0
        have HO6 := Lib.hid (HOX.out.trans (Only.of_below hq6))
        have HR6 := Lib.hid (HRX.out.keep hq6 HGX.out)
        have HOW6 := Lib.hid how6
        have HLN6 := Lib.hid hln6
        have HLOW6 := Lib.hid hlow6
        have HSZ6 := Lib.hid (Nat.le_trans HSX.out hq6.size)
        obtain ⟨m6, hm6⟩ : ∃ m, xs6.length = m := ⟨_, rfl⟩
        have HM6 := Lib.hid hm6
        rw [hm6] at HK ⊢
        clear hsl6 hxs6 hpm how6 hq6 hlow6 hln6 hm6 e0 e1
        go_wp2_with fail
        refine HK.out.mono ?_; rintro e w7 ⟨rfl, hq7⟩
        have g0 := keepc hq7 g0
        cases r6 with
        | true =>
          have HX : Hid (LayerIn w w7 g p5 (.slice a6 m6 c6)) := ⟨xs6, by rw [← HM6.out]; exact HOW6.out.below hq7, hr6.1 rfl, HLOW6.out, HR6.out.keep hq7 (Nat.lt_of_lt_of_le hg HSZ6.out), (HO.out.trans HO6.out).trans (Only.of_below hq7)⟩
          clear hq7 HK g0
          go_wp2
          go_roundw
          case rel => exact ⟨z' - 1, p5, by go_num, by omega, by omega, by omega, HX.out⟩
          case measure => simp [intOf]; omega
        | false =>
          have HSZ7 := Lib.hid (Nat.le_trans HSZ6.out hq7.size)
          have HU := Lib.hid (l3Ups_c 3 (.slice a6 xs6.length c6) xs6 s w.heap.size w7 (pathT_ok hs) (levels_3 _) hkn6 (HOW6.out.below hq7) HSZ7.out (by have := HLN6.out; omega))
          rw [HM6.out] at HU
          have HO7 := Lib.hid (HO6.out.trans (Only.of_below hq7))
          have HR7 := Lib.hid (HR6.out.keep hq7 (Nat.lt_of_lt_of_le hg HSZ6.out))
          clear hq7 HK
          go_wp2_with fail
          refine HU.out.mono ?_; rintro e w8 ⟨v8, ns, rfl, hns, _, hln8, how8, hq8⟩
          obtain ⟨r8, hr8⟩ := mlok_dec ns
          obtain ⟨a8, c8, rfl, hc8, hsl8⟩ := how8.slf
          have hsh8 : ShortM (ns.map Mk.pl) := by rw [hns]; exact short_ups 3 hsh6 (pathT_ok hs)
          have hlow8 : LowM (ns.map Mk.pl) := by rw [hns]; exact low_ups 3 HLOW6.out (pathT_ok hs) (good_low.1 (pathT_good hs)).2
          have HK8 := Lib.hid (sLayerOk_c a8 c8 ns r8 (Lib.hid hr8) w8 hsl8 (by have h1 := HLN6.out; have h2 := HM6.out; unfold maxLen; omega) hc8 (short_small hsh8).mil)
          have HSZ8 := Lib.hid (Nat.le_trans HSZ7.out hq8.size)
          have HO8 := Lib.hid (HO7.out.trans (Only.of_below hq8))
          have HR8 := Lib.hid (HR7.out.keep hq8 (Nat.lt_of_lt_of_le hg HSZ7.out))
          have HOW8 := Lib.hid how8
          have HLOW8 := Lib.hid hlow8
          obtain ⟨m8, hm8⟩ : ∃ m, ns.length = m := ⟨_, rfl⟩
          have HM8 := Lib.hid hm8
          rw [hm8] at HK8 ⊢
          clear hsl8 how8 hq8 hlow8 hns hm8 HU g0
          go_wp2_with fail
          refine HK8.out.mono ?_; rintro e w9 ⟨rfl, hq9⟩
          have HO9 := Lib.hid (HO8.out.trans (Only.of_below hq9))
          have HR9 := Lib.hid (HR8.out.keep hq9 (Nat.lt_of_lt_of_le hg HSZ8.out))
          cases r8 with
          | true =>
            have HX : Hid (LayerIn w w9 g p5 (.slice a8 m8 c8)) := ⟨ns, by rw [← HM8.out]; exact HOW8.out.below hq9, hr8.1 rfl, HLOW8.out, HR9.out, HO.out.trans HO9.out⟩
            clear hq9 HK8
            go_wp2
            go_roundw
            case rel => exact ⟨z' - 1, p5, by go_num, by omega, by omega, by omega, HX.out⟩
            case measure => simp [intOf]; omega
          | false =>
            have HX : Hid (LayerIn w w9 g p5 (.slice (some ⟨b0, 0, none⟩) m0 cc0)) := ⟨ms, HOW.out.only HO9.out hg, HLK.out, HLW.out, HR9.out, HO.out.trans HO9.out⟩
            clear hq9 HK8
            go_wp2
            go_roundw
            case rel => exact ⟨z' - 1, p5, by go_num, by omega, by omega, by omega, HX.out⟩
            case measure => simp [intOf]; omega
      · have hkb : (k == 1) = false := by rw [beq_eq_false_iff_ne]; exact hk1
        have HOX := HO4
        have HRX := HR4
        have HSX : Hid (w.heap.size ≤ W.heap.size) := Nat.le_trans hBr HOX.out.size
        have HGX : Hid (g < W.heap.size) := HRX.out.lt
        have HSD : Hid (s.data.toList.length ≤ 20 ∧ ([] : List UInt8).length ≤ 20) := ⟨by rw [size_data]; exact goodT_size (pathT_good hs), by decide⟩
        have HP := Lib.hid (l3PutO_c w.heap.size (.slice (some ⟨b0, 0, none⟩) m0 cc0) ms ⟨s, k, ⟨#[]⟩⟩ W (HOW.out.only HOX.out hg) HSX.out (by have := HLK.out.most; rw [List.length_map] at this; omega))
        go_wp2_with fail
        refine HP.out.mono ?_; rintro e w6 ⟨v6, rfl, how6, hq6⟩
        have hpm : (putP Mk.bs ms ⟨s, k, ⟨#[]⟩⟩).map Mk.pl = putP PM.p (ms.map Mk.pl) (Mk.pl ⟨s, k, ⟨#[]⟩⟩) := putP_map Mk.pl (f := Mk.bs) (g := PM.p) (fun _ => rfl) _ _
        have hlow6 : LowM ((putP Mk.bs ms ⟨s, k, ⟨#[]⟩⟩).map Mk.pl) := by rw [hpm]; exact low_put HLW.out (good_low.1 (pathT_good hs)).2
        have hsh6 : ShortM ((putP Mk.bs ms ⟨s, k, ⟨#[]⟩⟩).map Mk.pl) := by rw [hpm]; exact short_put (small_short (lok_small HLK.out)) HSD.out
        have hln6 : (putP Mk.bs ms ⟨s, k, ⟨#[]⟩⟩).length ≤ 40 := by have h1 := HLK.out.most; rw [List.length_map] at h1; have h2 := mput_len ms ⟨s, k, ⟨#[]⟩⟩; omega
        have hkn6 := kinds_put (lok_kinds HLK.out) (e := ⟨s, k, ⟨#[]⟩⟩) (kindOk_ne hk)
        obtain ⟨xs6, hxs6⟩ : ∃ xs6, putP Mk.bs ms ⟨s, k, ⟨#[]⟩⟩ = xs6 := ⟨_, rfl⟩
        rw [hxs6] at how6 hlow6 hsh6 hln6 hkn6
        obtain ⟨r6, hr6⟩ := mlok_dec xs6
        obtain ⟨a6, c6, rfl, hc6, hsl6⟩ := how6.slf
        have HK := Lib.hid (sLayerOk_c a6 c6 xs6 r6 (Lib.hid hr6) w6 hsl6 (by unfold maxLen; omega) hc6 (short_small hsh6).mil)
        have g0 := keepc hq6 e0
        have HO6 := Lib.hid (HOX.out.trans (Only.of_below hq6))
        have HR6 := Lib.hid (HRX.out.keep hq6 HGX.out)
        have HOW6 := Lib.hid how6
        have HLN6 := Lib.hid hln6
        have HLOW6 := Lib.hid hlow6
        have HSZ6 := Lib.hid (Nat.le_trans HSX.out hq6.size)
        obtain ⟨m6, hm6⟩ : ∃ m, xs6.length = m := ⟨_, rfl⟩
        have HM6 := Lib.hid hm6
        rw [hm6] at HK ⊢
        clear hsl6 hxs6 hpm how6 hq6 hlow6 hln6 hm6 e0 e1
        go_wp2_with fail
        refine HK.out.mono ?_; rintro e w7 ⟨rfl, hq7⟩
        have g0 := keepc hq7 g0
        cases r6 with
        | true =>
          have HX : Hid (LayerIn w w7 g p3 (.slice a6 m6 c6)) := ⟨xs6, by rw [← HM6.out]; exact HOW6.out.below hq7, hr6.1 rfl, HLOW6.out, HR6.out.keep hq7 (Nat.lt_of_lt_of_le hg HSZ6.out), (HO.out.trans HO6.out).trans (Only.of_below hq7)⟩
          clear hq7 HK g0
          go_wp2
          go_roundw
          case rel => exact ⟨z' - 1, p3, by go_num, by omega, by omega, by omega, HX.out⟩
          case measure => simp [intOf]; omega
        | false =>
          have HSZ7 := Lib.hid (Nat.le_trans HSZ6.out hq7.size)
          have HU := Lib.hid (l3Ups_c 3 (.slice a6 xs6.length c6) xs6 s w.heap.size w7 (pathT_ok hs) (levels_3 _) hkn6 (HOW6.out.below hq7) HSZ7.out (by have := HLN6.out; omega))
          rw [HM6.out] at HU
          have HO7 := Lib.hid (HO6.out.trans (Only.of_below hq7))
          have HR7 := Lib.hid (HR6.out.keep hq7 (Nat.lt_of_lt_of_le hg HSZ6.out))
          clear hq7 HK
          go_wp2_with fail
          refine HU.out.mono ?_; rintro e w8 ⟨v8, ns, rfl, hns, _, hln8, how8, hq8⟩
          obtain ⟨r8, hr8⟩ := mlok_dec ns
          obtain ⟨a8, c8, rfl, hc8, hsl8⟩ := how8.slf
          have hsh8 : ShortM (ns.map Mk.pl) := by rw [hns]; exact short_ups 3 hsh6 (pathT_ok hs)
          have hlow8 : LowM (ns.map Mk.pl) := by rw [hns]; exact low_ups 3 HLOW6.out (pathT_ok hs) (good_low.1 (pathT_good hs)).2
          have HK8 := Lib.hid (sLayerOk_c a8 c8 ns r8 (Lib.hid hr8) w8 hsl8 (by have h1 := HLN6.out; have h2 := HM6.out; unfold maxLen; omega) hc8 (short_small hsh8).mil)
          have HSZ8 := Lib.hid (Nat.le_trans HSZ7.out hq8.size)
          have HO8 := Lib.hid (HO7.out.trans (Only.of_below hq8))
          have HR8 := Lib.hid (HR7.out.keep hq8 (Nat.lt_of_lt_of_le hg HSZ7.out))
          have HOW8 := Lib.hid how8
          have HLOW8 := Lib.hid hlow8
          obtain ⟨m8, hm8⟩ : ∃ m, ns.length = m := ⟨_, rfl⟩
          have HM8 := Lib.hid hm8
          rw [hm8] at HK8 ⊢
          clear hsl8 how8 hq8 hlow8 hns hm8 HU g0
          go_wp2_with fail
          refine HK8.out.mono ?_; rintro e w9 ⟨rfl, hq9⟩
          have HO9 := Lib.hid (HO8.out.trans (Only.of_below hq9))
          have HR9 := Lib.hid (HR8.out.keep hq9 (Nat.lt_of_lt_of_le hg HSZ8.out))
          cases r8 with
          | true =>
            have HX : Hid (LayerIn w w9 g p3 (.slice a8 m8 c8)) := ⟨ns, by rw [← HM8.out]; exact HOW8.out.below hq9, hr8.1 rfl, HLOW8.out, HR9.out, HO.out.trans HO9.out⟩
            clear hq9 HK8
            go_wp2
            go_roundw
            case rel => exact ⟨z' - 1, p3, by go_num, by omega, by omega, by omega, HX.out⟩
            case measure => simp [intOf]; omega
          | false =>
            have HX : Hid (LayerIn w w9 g p3 (.slice (some ⟨b0, 0, none⟩) m0 cc0)) := ⟨ms, HOW.out.only HO9.out hg, HLK.out, HLW.out, HR9.out, HO.out.trans HO9.out⟩
            clear hq9 HK8
            go_wp2
            go_roundw
            case rel => exact ⟨z' - 1, p3, by go_num, by omega, by omega, by omega, HX.out⟩
            case measure => simp [intOf]; omega
    · have HFIN : Hid (LayerPost w g p 2000 (.returned (.slice (some ⟨b0, 0, none⟩) m0 cc0)) wr) := by
        obtain ⟨a, c, he, hd⟩ := HOW.out.drawn hg
        exact ⟨a, c, ms, p', by rw [he], hd, HLK.out, HLW.out, by omega, hrd, HO.out⟩
      clear hrd
      go_wp2
      go_ret
      exact HFIN.out
end Go.Proofs.YtdhbdcmnbhjjaaaGreatDoor
namespace Go.Proofs.YtdhbdcmnbhjjaaaGreatDoor
open Go.RowKit
/-- What a bending leaves. -/
def MBentPost (F : ByteArray → Bool) (w : World) (g p q N : Nat) (e : Ending) (w' : World) : Prop :=
  ∃ (a : Option Addr) (c : Nat) (xs : List Mk) (p' : Nat), e = .returned (.slice a xs.length c) ∧ DrawnM w' g a c xs ∧ SmM F xs ∧ xs.length ≤ N ∧ p' ≤ p + q ∧ Rd w' g p' ∧ Only g w w'
theorem msmall_set {F : ByteArray → Bool} {xs : List Mk} (h : SmM F xs) (k : Nat) (e : Mk) (he : (e.p.size ≤ 20 ∧ e.x.size ≤ 20) ∧ F e.p = true) : SmM F (xs.set k e) := fun x hx => by
  rcases List.mem_or_eq_of_mem_set hx with h1 | h1
  · exact h x h1
  · rw [h1]; exact he
theorem mbent_own {w : World} {B : Nat} {v : Value} {n : Nat} {xs : List Mk} {ad : Addr} {cc : Nat} (hn : xs.length = n) (h : w.ownsRow B 43 3 v (0 + xs.length) ([] ++ xs.flatMap Mk.cells)) (hnil : v = .slice none 0 0 ↔ Value.slice (some ad) 0 cc = .slice none 0 0 ∧ xs.length = 0) :
    ∃ b c, v = .slice (some ⟨b, 0, none⟩) n c ∧ n ≤ c ∧ c ≤ maxLen ∧ w.ownsRow B 43 3 (.slice (some ⟨b, 0, none⟩) n c) n (xs.flatMap Mk.cells) := by
  rw [Nat.zero_add, List.nil_append, hn] at h
  have h0 := h
  rcases h.2 with ⟨h1, _⟩ | ⟨g, cap, cur, rfl, hg, hh, hnc, hm, h2, h3⟩
  · have := hnil.1 h1; simp at this
  · exact ⟨g, cap, rfl, hnc, hm, h0⟩
theorem mdrawn_own {w : World} {g B b c : Nat} {xs : List Mk} (h : w.ownsRow B 43 3 (.slice (some ⟨b, 0, none⟩) xs.length c) xs.length (xs.flatMap Mk.cells)) (hg : g < B) (hc : xs.length ≤ c) (hm : c ≤ maxLen) : DrawnM w g (some ⟨b, 0, none⟩) c xs :=
  ⟨b, 0, rfl, Nat.lt_of_lt_of_le hg (h.lt b rfl).1, (h.lt b rfl).2, own_slf (fun _ => rfl) h, hc, hm⟩
set_option maxRecDepth 100000 in
set_option maxHeartbeats 8000000 in
theorem l3Bent_c (F : ByteArray → Bool) (hF : ∀ s, goodT s = true → F s = true) (hZZ : F ⟨#[47, 122, 122, 47, 122]⟩ = true) (w : World) (g p : Nat) (hr : Rd w g p) (hp : p ≤ 900000) (a : Option Addr) (c : Nat) (xs : List Mk) (ht : DrawnM w g a c xs) (hz : SmM F xs) (hx : xs.length ≤ 1000) :
    Calls Tryz.prog 42 #[.pointer (some ⟨g, 0, none⟩), .slice a xs.length c] w (MBentPost F w g p 4 (xs.length + 1)) := by
  have HE := eltMk
  have hg := hr.lt
  have HZ := Lib.hid hz
  have HR := Lib.hid hr
  have HB0 := bellow_alloc w (.cells #[] 43)
  have HRD := Lib.hid (ht.read.below HB0)
  obtain ⟨b0, off, rfl, _, hsl, _⟩ := HRD.out
  have hsl' := Lib.hid hsl
  have hown0 : Hid ((w.alloc (.cells #[] 43)).ownsRow w.heap.size 43 3 (.slice (some ⟨w.heap.size, 0, none⟩) 0 0) 0 []) := World.ownsRow_lit w #[] 0 (Nat.le_refl _) (Nat.zero_le _) rfl
  obtain ⟨n, hn⟩ : ∃ n, xs.length = n := ⟨_, rfl⟩
  have HN := Lib.hid hn
  rw [hn] at hx ⊢
  clear hsl ht hr hn hz
  by_cases hn0 : n = 0
  · subst hn0
    go_enter Tryz.func42, Tryz.ntmps42
    go_wp2_with (at_builtin; go_must (refine wp_appN (by rfl) _ _ 32 (by rfl) HE w.heap.size w.heap.size w _ _ 0 [] (by rfl) Mk.cells (fun _ => rfl) mk_one xs b0 off 0 c HN.out (by rfl) hsl'.out hown0.out (by rw [HN.out]; omega) HB0.size HB0 (Nat.le_refl _) ?_); intro v2 w2 hown3 hbel3 hnil; obtain ⟨b, c5, rfl, hc5, hcm, how⟩ := mbent_own HN.out hown3 hnil; clear hown3 hnil)
    have HRD2 := Lib.hid (HR.out.keep hbel3 hg)
    have HO2 : Hid (Only g w w2) := Only.of_below hbel3
    have hgb : w.heap.size ≤ b := (how.lt b rfl).1
    have HOW := Lib.hid how
    clear hbel3 how HB0 hsl' hown0 HRD
    go_ret
    exact ⟨some ⟨b, 0, none⟩, c5, xs, p, ret_len HN.out, mdrawn_own (B := w.heap.size) (by rw [HN.out]; exact HOW.out) hg (by rw [HN.out]; omega) hcm, HZ.out, by rw [HN.out]; omega, by omega, HRD2.out, HO2.out⟩
  have n0 : ((n : Int) == 0) = false := by rw [beq_eq_false_iff_ne]; omega
  go_enter Tryz.func42, Tryz.ntmps42
  go_wp2_with (at_builtin; go_must (refine wp_appN (by rfl) _ _ 32 (by rfl) HE w.heap.size w.heap.size w _ _ 0 [] (by rfl) Mk.cells (fun _ => rfl) mk_one xs b0 off n c HN.out (by rfl) hsl'.out hown0.out (by rw [HN.out]; omega) HB0.size HB0 (Nat.le_refl _) ?_); intro v2 w2 hown3 hbel3 hnil; obtain ⟨b, c5, rfl, hc5, hcm, how⟩ := mbent_own HN.out hown3 hnil; clear hown3 hnil)
  have HRD2 := Lib.hid (HR.out.keep hbel3 hg)
  have HO2 : Hid (Only g w w2) := Only.of_below hbel3
  have hgb : w.heap.size ≤ b := (how.lt b rfl).1
  have HOW := Lib.hid how
  clear hbel3 how HB0 hsl' hown0 HRD
  have HK := Lib.hid (pick_c w2 g p (n : Int) HRD2.out (by omega) (by omega) (by omega))
  clear HRD2
  refine HK.out.mono ?_; rintro e w3 ⟨k, rfl, _, hkn, hrd3, ho3⟩
  have hk : k < n := by have := hkn (by omega); omega
  have HOW3 := Lib.hid (own_only HOW.out ho3 hg)
  have HO3 := Lib.hid (HO2.out.trans ho3)
  have HK2 := Lib.hid (pick_c w3 g (p + 1) 60 hrd3 (by omega) (by omega) (by omega))
  clear hkn hrd3 ho3 HK HOW HO2
  go_wp2_with fail
  refine HK2.out.mono ?_; rintro e w4 ⟨m, rfl, _, _, hrd, ho4⟩
  have hown := own_only HOW3.out ho4 hg
  have HOX := Lib.hid (HO3.out.trans ho4)
  obtain ⟨⟨ep, ek, ex⟩, hee⟩ : ∃ e, xs[k]? = some e := ⟨_, List.getElem?_eq_getElem (by rw [HN.out]; exact hk)⟩
  have hes := HZ.out ⟨ep, ek, ex⟩ (List.mem_of_getElem? hee)
  have hsx : SlF Mk.cells w4 (some ⟨b, 0, none⟩) xs := own_slfN (fun _ => rfl) hown HN.out
  obtain ⟨d0, d1, d2⟩ := mk_at hsx k ⟨ep, ek, ex⟩ hee
  have i0 : (0 : Int) ≤ (k : Int) := by omega
  have i1 : (k : Int) < (n : Int) := by omega
  rw [Nat.zero_add] at d0 d1 d2
  clear ho4 HK2 HOW3 HO3
  by_cases m0 : m = 0
  · subst m0
    have HNU := Lib.hid (fun (cs : Array Value) (n : Nat) (hn : Hid (cs.size = n)) h0 h1 hs => num_c (w4.alloc (.cells cs 3)) g (p + 1 + 1) w4.heap.size n cs 3 (hrd.alloc _) (by omega) (heap_alloc_new w4 _) (by have := hrd.lt; omega) hn.out h0 h1 hs)
    have HEE := Lib.hid hee
    have HOWN := Lib.hid hown
    clear hrd hsx hee d0 d1 d2 hown
    go_wp2_with fail
    refine (HNU.out _ _ (by exact Lib.hid rfl) (by decide) (by decide) (by rfl)).mono ?_
    rintro e w5 ⟨z, p6, rfl, _, _, hp6, hrd6, ho6⟩
    have hown5 := own_only (own_below HOWN.out (bellow_alloc w4 _)) ho6 hg
    have d0 := hown5.cellAt (k * 3 + 1) (by omega)
    obtain ⟨x0, hx0⟩ : ∃ u, (xs.flatMap Mk.cells)[k * 3 + 1]? = some u := ⟨_, List.getElem?_eq_getElem (by rw [flatMap_len (fun _ => rfl), HN.out]; omega)⟩
    rw [hx0] at d0
    have f0 := hown5.frozenAt (k * 3 + 1)
    have HST := Lib.hid (hown5.stored (k * 3 + 1) (.int .i64 z))
    rw [flat_set (fun _ => rfl) (by decide : 1 < 3) xs k ⟨ep, ek, ex⟩ HEE.out (e' := (⟨ep, z, ex⟩ : Mk)) rfl] at HST
    have HSM := Lib.hid (msmall_set HZ.out k (⟨ep, z, ex⟩ : Mk) hes)
    have HRD6 := Lib.hid (hrd6.set ⟨b, k * 3 + 1, none⟩ (.int .i64 z) (by show g < b; omega))
    have HO6 := Lib.hid (((HOX.out.alloc _).trans ho6).setCell (p := ⟨b, k * 3 + 1, none⟩) (.inr (by show w.heap.size ≤ b; omega)) (.int .i64 z))
    clear hown5 hx0 hrd6 ho6 HNU
    go_wp2
    go_ret
    exact ⟨some ⟨b, 0, none⟩, c5, xs.set k (⟨ep, z, ex⟩ : Mk), p6, ret_len (by rw [List.length_set, HN.out]), mdrawn_own (B := w.heap.size) (by rw [List.length_set, HN.out]; exact HST.out.1) hg (by rw [List.length_set, HN.out]; exact hc5) hcm, HSM.out, by rw [List.length_set, HN.out]; omega, by omega, HRD6.out, HO6.out⟩
  have n0' : ((m : Int) == 0) = false := by rw [beq_eq_false_iff_ne]; omega
  by_cases m1 : m = 1
  · subst m1
    have HNU := Lib.hid (fun (cs : Array Value) (n : Nat) (hn : Hid (cs.size = n)) h0 h1 hs => ofF_c goodT (w4.alloc (.cells cs 9)) g (p + 1 + 1) w4.heap.size n cs 9 (hrd.alloc _) (by omega) (heap_alloc_new w4 _) (by have := hrd.lt; omega) hn.out h0 h1 hs)
    have HEE := Lib.hid hee
    have HOWN := Lib.hid hown
    clear hrd hsx hee d0 d1 d2 hown
    go_wp2_with fail
    refine (HNU.out _ _ (by exact Lib.hid rfl) (by decide) (by decide) (by kernel_rfl)).mono ?_
    rintro e w5 ⟨s, p6, rfl, hs, hp6, hrd6, ho6⟩
    have hown5 := own_only (own_below HOWN.out (bellow_alloc w4 _)) ho6 hg
    have d0 := hown5.cellAt (k * 3) (by omega)
    obtain ⟨x0, hx0⟩ : ∃ u, (xs.flatMap Mk.cells)[k * 3]? = some u := ⟨_, List.getElem?_eq_getElem (by rw [flatMap_len (fun _ => rfl), HN.out]; omega)⟩
    rw [hx0] at d0
    have f0 := hown5.frozenAt (k * 3)
    have HST := Lib.hid (hown5.stored (k * 3 + 0) (.string s))
    rw [flat_set (fun _ => rfl) (by decide : 0 < 3) xs k ⟨ep, ek, ex⟩ HEE.out (e' := (⟨s, ek, ex⟩ : Mk)) rfl] at HST
    have HSM := Lib.hid (msmall_set HZ.out k (⟨s, ek, ex⟩ : Mk) ⟨⟨goodT_size hs, hes.1.2⟩, hF s hs⟩)
    have HRD6 := Lib.hid (hrd6.set ⟨b, k * 3 + 0, none⟩ (.string s) (by show g < b; omega))
    have HO6 := Lib.hid (((HOX.out.alloc _).trans ho6).setCell (p := ⟨b, k * 3 + 0, none⟩) (.inr (by show w.heap.size ≤ b; omega)) (.string s))
    clear hown5 hx0 hrd6 ho6 HNU
    go_wp2
    go_ret
    exact ⟨some ⟨b, 0, none⟩, c5, xs.set k (⟨s, ek, ex⟩ : Mk), p6, ret_len (by rw [List.length_set, HN.out]), mdrawn_own (B := w.heap.size) (by rw [List.length_set, HN.out]; exact HST.out.1) hg (by rw [List.length_set, HN.out]; exact hc5) hcm, HSM.out, by rw [List.length_set, HN.out]; omega, by omega, HRD6.out, HO6.out⟩
  have n1' : ((m : Int) == 1) = false := by rw [beq_eq_false_iff_ne]; omega
  by_cases m2 : m = 2
  · subst m2
    have HNU := Lib.hid (fun (cs : Array Value) (n : Nat) (hn : Hid (cs.size = n)) h0 h1 hs => of_c (w4.alloc (.cells cs 9)) g (p + 1 + 1) w4.heap.size n cs 9 (hrd.alloc _) (by omega) (heap_alloc_new w4 _) (by have := hrd.lt; omega) hn.out h0 h1 hs)
    have HEE := Lib.hid hee
    have HOWN := Lib.hid hown
    clear hrd hsx hee d0 d1 d2 hown
    go_wp2_with fail
    refine (HNU.out _ _ (by exact Lib.hid rfl) (by decide) (by decide) (by rfl)).mono ?_
    rintro e w5 ⟨s, p6, rfl, hs, hp6, hrd6, ho6⟩
    have hown5 := own_only (own_below HOWN.out (bellow_alloc w4 _)) ho6 hg
    have d0 := hown5.cellAt (k * 3 + 2) (by omega)
    obtain ⟨x0, hx0⟩ : ∃ u, (xs.flatMap Mk.cells)[k * 3 + 2]? = some u := ⟨_, List.getElem?_eq_getElem (by rw [flatMap_len (fun _ => rfl), HN.out]; omega)⟩
    rw [hx0] at d0
    have f0 := hown5.frozenAt (k * 3 + 2)
    have HST := Lib.hid (hown5.stored (k * 3 + 2) (.string s))
    rw [flat_set (fun _ => rfl) (by decide : 2 < 3) xs k ⟨ep, ek, ex⟩ HEE.out (e' := (⟨ep, ek, s⟩ : Mk)) rfl] at HST
    have HSM := Lib.hid (msmall_set HZ.out k (⟨ep, ek, s⟩ : Mk) ⟨⟨hes.1.1, hs⟩, hes.2⟩)
    have HRD6 := Lib.hid (hrd6.set ⟨b, k * 3 + 2, none⟩ (.string s) (by show g < b; omega))
    have HO6 := Lib.hid (((HOX.out.alloc _).trans ho6).setCell (p := ⟨b, k * 3 + 2, none⟩) (.inr (by show w.heap.size ≤ b; omega)) (.string s))
    clear hown5 hx0 hrd6 ho6 HNU
    go_wp2
    go_ret
    exact ⟨some ⟨b, 0, none⟩, c5, xs.set k (⟨ep, ek, s⟩ : Mk), p6, ret_len (by rw [List.length_set, HN.out]), mdrawn_own (B := w.heap.size) (by rw [List.length_set, HN.out]; exact HST.out.1) hg (by rw [List.length_set, HN.out]; exact hc5) hcm, HSM.out, by rw [List.length_set, HN.out]; omega, by omega, HRD6.out, HO6.out⟩
  have n2' : ((m : Int) == 2) = false := by rw [beq_eq_false_iff_ne]; omega
  by_cases m3 : m = 3
  · subst m3
    have HRDX := Lib.hid hrd
    have HSM : Hid (SmM F (xs ++ [(⟨ep, ek, ex⟩ : Mk)])) := fun x hx => by
      rcases List.mem_append.1 hx with h | h
      · exact HZ.out x h
      · rw [List.mem_singleton.1 h]; exact hes
    clear hrd hsx hee
    go_wp2_with (at_builtin; go_must (refine wp_app1H (by rfl) _ _ 32 (by rfl) HE w.heap.size w.heap.size w4 _ #[.string ep, .int .i64 ek, .string ex] _ _ _ (by rfl) w4.heap.size (by simp) (by rfl) hown (by rfl) (by simp [Value.oneCell']) (by omega) HOX.out.size (Below.refl _ _) (Nat.le_refl _) ?_); intro v' w5 hown1 _ _ hgr)
    have hown2 : w5.ownsRow w.heap.size 43 3 v' (xs ++ [(⟨ep, ek, ex⟩ : Mk)]).length ((xs ++ [(⟨ep, ek, ex⟩ : Mk)]).flatMap Mk.cells) := by
      rw [← mflat_app, List.length_append, HN.out]; exact hown1
    obtain ⟨b9, c9, rfl, h91, h92, h93⟩ : OwnRd w5 w.heap.size v' (xs ++ [(⟨ep, ek, ex⟩ : Mk)]) := by
      refine mownRe_of hown2 (own_some hown1 (fun hv => ?_))
      have h2 := hown1
      rw [hv] at h2
      rcases h2.2 with ⟨_, h3⟩ | ⟨_, _, _, h3, _⟩
      · omega
      · cases h3
    have hbk : ∀ k, (Value.slice (some ⟨b, 0, none⟩) n c5).ownBlock = some k → w.heap.size ≤ k := fun k hk => by
      have : b = k := by simpa [Value.ownBlock] using hk
      omega
    have HO9 := Lib.hid (only_grown (HOX.out.alloc _) hgr hbk)
    have HR9 := Lib.hid ((HRDX.out.alloc _).grown hgr (fun k hk => Nat.lt_of_lt_of_le hg (hbk k hk)))
    clear hown1 hown2 hgr
    go_wp2
    go_ret
    exact ⟨_, c9, _, p + 1 + 1, rfl, mdrawn_own h93 hg h91 h92, HSM.out, by simp [HN.out], by omega, HR9.out, HO9.out⟩
  have n3' : ((m : Int) == 3) = false := by rw [beq_eq_false_iff_ne]; omega
  have HRDX := Lib.hid hrd
  have HOWN := Lib.hid hown
  have HSX := Lib.hid hsx
  clear hrd hown hsx hee d0 d1 d2
  by_cases m4 : m = 4
  · subst m4
    have i2 : (1 : Int) ≤ (n : Int) := by omega
    have i3 : (1 : Int) ≤ (c5 : Int) := by omega
    have HDR := Lib.hid (HSX.out.drop 1)
    have hlt : b < w4.heap.size := (HOWN.out.lt b rfl).2
    by_cases hc1 : c5 = 1
    · subst hc1
      obtain rfl : n = 1 := by omega
      have HFIN : Hid (MBentPost F w g p 4 (1 + 1) (.returned (.slice (some ⟨b, 0, none⟩) 0 0)) w4) := ⟨some ⟨b, 0, none⟩, 0, [], p + 1 + 1, rfl, ⟨b, 0, rfl, by omega, hlt, fun h => absurd h (by simp), Nat.zero_le _, Nat.zero_le _⟩, fun x hx => by simp at hx, by simp, by omega, HRDX.out, HOX.out⟩
      go_wp2
      all_goals first | (exfalso; omega) | skip
      all_goals go_ret
      all_goals exact HFIN.out
    · have HFIN : Hid (MBentPost F w g p 4 (n + 1) (.returned (.slice (some ⟨b, 3, none⟩) (n - 1) (c5 - 1))) w4) := ⟨some ⟨b, 3, none⟩, c5 - 1, xs.drop 1, p + 1 + 1, ret_len (by rw [List.length_drop, HN.out]), ⟨b, 3, rfl, by omega, hlt, by simpa using HDR.out, by rw [List.length_drop, HN.out]; omega, by omega⟩, fun x hx => HZ.out x (List.mem_of_mem_drop hx), by rw [List.length_drop, HN.out]; omega, by omega, HRDX.out, HOX.out⟩
      go_wp2
      all_goals first | (exfalso; omega) | skip
      all_goals go_ret
      all_goals exact HFIN.out
  have n4' : ((m : Int) == 4) = false := by rw [beq_eq_false_iff_ne]; omega
  by_cases m5 : m = 5
  · subst m5
    have HSM : Hid (SmM F (xs ++ [(⟨⟨#[47, 122, 122, 47, 122]⟩, 1, ⟨#[]⟩⟩ : Mk)])) := fun x hx => by
      rcases List.mem_append.1 hx with h | h
      · exact HZ.out x h
      · rw [List.mem_singleton.1 h]; exact ⟨by decide, hZZ⟩
    have hown := HOWN.out
    go_wp2_with (at_builtin; go_must (refine wp_app1H (by rfl) _ _ 32 (by rfl) HE w.heap.size w.heap.size w4 _ #[.string ⟨#[47, 122, 122, 47, 122]⟩, .int .i64 1, .string ⟨#[]⟩] _ _ _ (by rfl) w4.heap.size (by simp) (by rfl) hown (by rfl) (by simp [Value.oneCell']) (by omega) HOX.out.size (Below.refl _ _) (Nat.le_refl _) ?_); intro v' w5 hown1 _ _ hgr)
    have hown2 : w5.ownsRow w.heap.size 43 3 v' (xs ++ [(⟨⟨#[47, 122, 122, 47, 122]⟩, 1, ⟨#[]⟩⟩ : Mk)]).length ((xs ++ [(⟨⟨#[47, 122, 122, 47, 122]⟩, 1, ⟨#[]⟩⟩ : Mk)]).flatMap Mk.cells) := by
      rw [← mflat_app, List.length_append, HN.out]; exact hown1
    obtain ⟨b9, c9, rfl, h91, h92, h93⟩ : OwnRd w5 w.heap.size v' (xs ++ [(⟨⟨#[47, 122, 122, 47, 122]⟩, 1, ⟨#[]⟩⟩ : Mk)]) := by
      refine mownRe_of hown2 (own_some hown1 (fun hv => ?_))
      have h2 := hown1
      rw [hv] at h2
      rcases h2.2 with ⟨_, h3⟩ | ⟨_, _, _, h3, _⟩
      · omega
      · cases h3
    have hbk : ∀ k, (Value.slice (some ⟨b, 0, none⟩) n c5).ownBlock = some k → w.heap.size ≤ k := fun k hk => by
      have : b = k := by simpa [Value.ownBlock] using hk
      omega
    have HO9 := Lib.hid (only_grown (HOX.out.alloc _) hgr hbk)
    have HR9 := Lib.hid ((HRDX.out.alloc _).grown hgr (fun k hk => Nat.lt_of_lt_of_le hg (hbk k hk)))
    clear hown1 hown2 hgr
    go_wp2
    go_ret
    exact ⟨_, c9, _, p + 1 + 1, rfl, mdrawn_own h93 hg h91 h92, HSM.out, by simp [HN.out], by omega, HR9.out, HO9.out⟩
  · have n5' : ((m : Int) == 5) = false := by rw [beq_eq_false_iff_ne]; omega
    go_wp2
    go_ret
    exact ⟨some ⟨b, 0, none⟩, c5, xs, p + 1 + 1, ret_len HN.out, mdrawn_own (B := w.heap.size) (by rw [HN.out]; exact HOWN.out) hg (by rw [HN.out]; exact hc5) hcm, HZ.out, by rw [HN.out]; omega, by omega, HRDX.out, HOX.out⟩
end Go.Proofs.YtdhbdcmnbhjjaaaGreatDoor
namespace Go.Proofs.YtdhbdcmnbhjjaaaGreatDoor
open Go.RowKit
theorem small_leM {xs : List Mk} (h : SmallM xs) : SmM le20 xs := fun e he => ⟨h e he, by unfold le20; rw [decide_eq_true_eq]; exact (h e he).1⟩
/-- A short text that is low, or z in zz. -/
def lowZ (s : ByteArray) : Bool := goodT s || (s.data.toList == [47, 122, 122, 47, 122])
theorem lowZ_good (s : ByteArray) (h : goodT s = true) : lowZ s = true := by unfold lowZ; rw [h]; rfl
theorem lowZ_z : lowZ ⟨#[47, 122, 122, 47, 122]⟩ = true := by decide
theorem le20_z : le20 ⟨#[47, 122, 122, 47, 122]⟩ = true := by decide
/-- All that stands in a layer is low, or z in zz. -/
def LowZ (l : List PM) : Prop := ∀ m ∈ l, lowL m.p = true ∨ m.p = [47, 122, 122, 47, 122]
theorem low_lowZ {xs : List Mk} (h : LowM (xs.map Mk.pl)) (hz : SmallM xs) : SmM lowZ xs := fun e he => ⟨hz e he, lowZ_good _ (good_low.2 ⟨(hz e he).1, h e.pl (List.mem_map_of_mem he)⟩)⟩
theorem lowZ_low {xs : List Mk} (h : SmM lowZ xs) : LowZ (xs.map Mk.pl) := fun m hm => by
  obtain ⟨e, he, rfl⟩ := List.mem_map.1 hm
  have h1 := (h e he).2
  unfold lowZ at h1
  rw [Bool.or_eq_true, beq_iff_eq] at h1
  exact h1.imp (fun h2 => (good_low.1 h2).2) (fun h2 => h2)
/-- A layer, drawn. -/
def OneLayerPost (w : World) (e : Ending) (w' : World) : Prop :=
  ∃ (a : Option Addr) (c : Nat) (xs : List Mk), e = .returned (.slice a xs.length c) ∧ RdMk w' a c xs ∧ SmallM xs ∧ xs.length ≤ 40 ∧ LowZ (xs.map Mk.pl) ∧ Below w.heap.size w w'
/-- Two layers, drawn. -/
def TwoLayerPost (w : World) (e : Ending) (w' : World) : Prop :=
  ∃ (a : Option Addr) (c : Nat) (xs : List Mk) (a' : Option Addr) (c' : Nat) (ys : List Mk), e = .returned (.tuple #[.slice a xs.length c, .slice a' ys.length c']) ∧ RdMk w' a c xs ∧ SmallM xs ∧ xs.length ≤ 40 ∧ RdMk w' a' c' ys ∧ SmallM ys ∧ ys.length ≤ 40 ∧ Below w.heap.size w w'
/-- A layer and a text, drawn. -/
def LayerTextPost (w : World) (e : Ending) (w' : World) : Prop :=
  ∃ (a : Option Addr) (c : Nat) (xs : List Mk) (s : ByteArray), e = .returned (.tuple #[.slice a xs.length c, .string s]) ∧ RdMk w' a c xs ∧ SmallM xs ∧ xs.length ≤ 40 ∧ s.size ≤ 20 ∧ Below w.heap.size w w'
/-- A layer and a tree, drawn. -/
def LayerTreePost (w : World) (e : Ending) (w' : World) : Prop :=
  ∃ (a : Option Addr) (c : Nat) (xs : List Mk) (a' : Option Addr) (c' : Nat) (ys : List En), e = .returned (.tuple #[.slice a xs.length c, .slice a' ys.length c']) ∧ RdMk w' a c xs ∧ SmallM xs ∧ xs.length ≤ 40 ∧ ReadEn w' a' c' ys ∧ Small ys ∧ ys.length ≤ 25 ∧ Below w.heap.size w w'
set_option maxRecDepth 100000 in
set_option maxHeartbeats 4000000 in
theorem drawLayerOn_c (w : World) (a : Option Addr) (n c : Nat) (h : Code w a n c) : Calls Tryz.prog 13 #[.slice a n c] w (LayerTreePost w) := by
  obtain ⟨rb, hrb⟩ : ∃ rb, w.heap.size = rb := ⟨_, rfl⟩
  have ho0 := open_c' w a n c h
  rw [hrb] at ho0
  have HO := Lib.hid ho0
  clear h ho0
  go_enter Tryz.func13, Tryz.ntmps13
  go_wp2_with fail
  refine HO.out.mono ?_; rintro e w1 ⟨rfl, hrd, hb⟩
  have HB1 := Lib.hid (hb.mono (by rw [hrb]; exact Nat.le_refl _) : Below w.heap.size w w1)
  have HT := Lib.hid (l3Layer_c w1 rb 0 hrd (by omega))
  clear hrd hb HO
  go_wp2_with fail
  refine HT.out.mono ?_; rintro e w2 ⟨a2, c2, ts, p2, rfl, hd2, hlok, hlow, hp2, hrd2, ho2⟩
  have hts : ts.length ≤ 32 := by have := hlok.most; rw [List.length_map] at this; exact this
  have hsa := small_leM (lok_small hlok)
  have HBT := Lib.hid (l3Bent_c le20 le20_good le20_z w2 rb p2 hrd2 (by omega) a2 c2 ts hd2 hsa (by omega))
  clear hd2 hrd2
  obtain ⟨m2, hn2⟩ : ∃ n, ts.length = n := ⟨_, rfl⟩
  have HLB2 := Lib.hid hn2
  rw [hn2] at HBT ⊢
  clear hn2
  go_wp2_with fail
  refine HBT.out.mono ?_; rintro e w3 ⟨a3, c3, us, p3, rfl, hd3, hs3, hl3, hp3, hrd3, ho3⟩
  have hm2 := HLB2.out
  clear HBT
  have HDT := Lib.hid hd3
  have HTR := Lib.hid (l2Tree_c w3 rb p3 hrd3 (by omega))
  clear hrd3 hd3
  obtain ⟨n3, hn3⟩ : ∃ n, us.length = n := ⟨_, rfl⟩
  have HN3 := Lib.hid hn3
  rw [hn3] at hl3 ⊢
  clear hn3
  go_wp2_with fail
  refine HTR.out.mono ?_; rintro e w4 ⟨a4, c4, vs, p4, rfl, hd4, htok, hzl, hp4, hrd4, ho4⟩
  have hvs : vs.length ≤ 16 := by have := htok.most; rw [List.length_map] at this; exact this
  have hsv := small_le (tok_small htok)
  clear HTR
  have HBT := Lib.hid (l2Bent_c le20 le20_good w4 rb p4 hrd4 (by omega) a4 c4 vs hd4 hsv (by omega))
  clear hd4 hrd4
  obtain ⟨m4, hn2⟩ : ∃ n, vs.length = n := ⟨_, rfl⟩
  have HLB4 := Lib.hid hn2
  rw [hn2] at HBT ⊢
  clear hn2
  go_wp2_with fail
  refine HBT.out.mono ?_; rintro e w5 ⟨a5, c5, ys, p5, rfl, hd5, hs5, hl5, hp5, hrd5, ho5⟩
  have hm4 := HLB4.out
  clear HBT
  have HO5 := ho4.trans ho5
  have HB5 := Lib.hid (((ho2.trans ho3).trans HO5).below HB1.out (by omega) HB1.out.size)
  have HR3 := Lib.hid (HDT.out.only HO5).read
  have HR5 := Lib.hid hd5.read
  clear ho2 ho3 ho4 ho5 HO5 hd5 hrd5 HT HDT
  obtain ⟨m5, hn5⟩ : ∃ n, ys.length = n := ⟨_, rfl⟩
  have HN5 := Lib.hid hn5
  rw [hn5] at hl5 ⊢
  clear hn5
  go_wp2
  go_ret2
  exact ⟨a3, c3, us, a5, c5, ys, by rw [HN5.out, HN3.out]; rfl, HR3.out, hs3.small, by rw [HN3.out]; omega, HR5.out, hs5.small, by rw [HN5.out]; omega, HB5.out⟩
end Go.Proofs.YtdhbdcmnbhjjaaaGreatDoor
namespace Go.Proofs.YtdhbdcmnbhjjaaaGreatDoor
open Go.RowKit
set_option maxHeartbeats 4000000 in
theorem layerHides_c (a : Option Addr) (c : Nat) (xs : List Mk) (q : ByteArray) (r : Bool) (hr : Hid (r = true ↔ LOk (xs.map Mk.pl) ∧ hidesL (xs.map Mk.pl) q.data.toList = true)) (w : World) (hs : SlF Mk.cells w a xs) (hx : xs.length ≤ maxLen) (hq : q.size ≤ 2000000) (hz : ∀ e ∈ xs, e.p.size ≤ 2000000 ∧ e.x.size ≤ 2000000) :
    Calls Tryz.prog 19 #[.slice a xs.length c, .string q] w fun e w' => e = .returned (.bool r) ∧ Below w.heap.size w w' := by
  have hb := Below.refl w.heap.size w
  obtain ⟨k, hk⟩ := lok_dec xs
  have HT := Lib.hid (layerOk_c a c xs k (Lib.hid hk) w hs hx hz)
  obtain ⟨v, hv⟩ : ∃ v, hidesL (xs.map Mk.pl) q.data.toList = v := ⟨_, rfl⟩
  have HH := fun W (h : SlF Mk.cells W a xs) => Lib.hid (hides_c a c xs q v (Lib.hid hv) W h hx hq hz)
  have HR : Hid (r = (k && v)) := by
    rw [Hid, Bool.eq_iff_iff, hr.out, ← hk, hv, Bool.and_eq_true]
  have HS := Lib.hid hs
  obtain ⟨n, hn⟩ : ∃ n, xs.length = n := ⟨_, rfl⟩
  rw [hn] at HT HH ⊢
  have GH := Lib.hid HH
  clear hn HH hx hz hs hr hk hv hq
  cases k with
  | false =>
    obtain rfl : r = false := HR.out
    go_enter Tryz.func19, Tryz.ntmps19
    go_wp2_with fail
    refine (HT.out).mono ?_; rintro e W ⟨rfl, hq⟩; replace hb := chn hb hq; clear hq
    go_wp2
    go_ret
    exact ⟨rfl, hb⟩
  | true =>
    obtain rfl : r = v := by rw [HR.out]; simp
    go_enter Tryz.func19, Tryz.ntmps19
    go_wp2_with fail
    refine (HT.out).mono ?_; rintro e W ⟨rfl, hq⟩; replace hb := chn hb hq; clear hq
    go_wp2_with fail
    refine ((GH.out _ (HS.out.below hb)).out).mono ?_; rintro e W ⟨rfl, hq⟩; replace hb := chn hb hq; clear hq
    go_wp2
    go_ret
    exact ⟨rfl, hb⟩
end Go.Proofs.YtdhbdcmnbhjjaaaGreatDoor
namespace Go.Proofs.YtdhbdcmnbhjjaaaGreatDoor
open Go.RowKit
/-- Two layers held against one another. -/
theorem sameM_c (a a' : Option Addr) (c c' n n' : Nat) (xs ys : List Mk) (r : Bool) (hr : Hid (r = true ↔ xs = ys)) (w : World) (hn : xs.length = n) (hn' : ys.length = n') (hs : SlF Mk.cells w a xs) (hs' : SlF Mk.cells w a' ys) (hx : n ≤ 1000) (hy : n' ≤ 1000) :
    Calls Tryz.prog 23 #[.slice a n c, .slice a' n' c'] w fun e w' => e = .returned (.bool r) ∧ Below w.heap.size w w' := by
  subst hn hn'
  exact (layerSame_c a a' c c' xs ys r hr w hs hs' (by unfold maxLen; omega) (by unfold maxLen; omega)).mono fun _ _ ⟨h1, m, h2⟩ => ⟨h1, h2 ▸ below_dr w m⟩
theorem hidI_c (a : Option Addr) (c n : Nat) (xs : List Mk) (q : ByteArray) (r : Bool) (hr : Hid (r = true ↔ LOk (xs.map Mk.pl) ∧ hidesL (xs.map Mk.pl) q.data.toList = true)) (w : World) (hn : xs.length = n) (hs : SlF Mk.cells w a xs) (hx : n ≤ 1000) (hq : q.size ≤ 20) (hz : SmallM xs) :
    Calls Tryz.prog 19 #[.slice a n c, .string q] w fun e w' => e = .returned (.bool r) ∧ Below w.heap.size w w' := by
  subst hn
  exact layerHides_c a c xs q r hr w hs (by unfold maxLen; omega) (by omega) hz.mil
theorem lokI_c (a : Option Addr) (c n : Nat) (xs : List Mk) (r : Bool) (hr : Hid (r = true ↔ LOk (xs.map Mk.pl))) (w : World) (hn : xs.length = n) (hs : SlF Mk.cells w a xs) (hx : n ≤ 1000) (hz : SmallM xs) :
    Calls Tryz.prog 16 #[.slice a n c] w fun e w' => e = .returned (.bool r) ∧ Below w.heap.size w w' := by
  subst hn
  exact layerOk_c a c xs r hr w hs (by unfold maxLen; omega) hz.mil
theorem lokS_c (a : Option Addr) (c n : Nat) (xs : List Mk) (r : Bool) (hr : Hid (r = true ↔ LOk (xs.map Mk.pl))) (w : World) (hn : xs.length = n) (hs : SlF Mk.cells w a xs) (hc : n ≤ c) (hx : n ≤ 1000) (hz : SmallM xs) :
    Calls Tryz.prog 17 #[.slice a n c] w fun e w' => e = .returned (.bool r) ∧ Below w.heap.size w w' := by
  subst hn
  exact sLayerOk_c a c xs r hr w hs (by unfold maxLen; omega) hc hz.mil
theorem slf_nilM (w : World) : SlF Mk.cells w none [] := fun h => by simp at h
theorem hid_dec (xs : List Mk) (q : ByteArray) : ∃ r : Bool, r = true ↔ LOk (xs.map Mk.pl) ∧ hidesL (xs.map Mk.pl) q.data.toList = true := ⟨by classical exact decide (LOk (xs.map Mk.pl) ∧ hidesL (xs.map Mk.pl) q.data.toList = true), by simp⟩
end Go.Proofs.YtdhbdcmnbhjjaaaGreatDoor
namespace Go.Proofs.YtdhbdcmnbhjjaaaGreatDoor
open Go.RowKit
def mdig (k : Nat) (acc : Bs) : Bs := if k = 0 then acc else mdig (k / 10) (UInt8.ofNat (48 + k % 10) :: acc)
termination_by k
decreasing_by omega
/-- The mark of number k. -/
def mtext (k : Nat) : ByteArray := ⟨(109 :: mdig k []).toArray⟩
def MtRel (k : Nat) (i o : Value) : Prop := ∃ (j : Nat) (acc : ByteArray), acc.size + j ≤ k ∧ i = .int .i64 j ∧ o = .string acc ∧ mdig j acc.data.toList = mdig k []
/-- A slice of texts that can be read. -/
def SlS (w : World) (a : Option Addr) (ss : List ByteArray) : Prop :=
  0 < ss.length → ∃ b off, a = some ⟨b, off, none⟩ ∧ b < w.heap.size ∧ ∀ k s, ss[k]? = some s → w.cell? ⟨b, off + k, none⟩ = some (.string s)
theorem SlS.below {w w' : World} {a : Option Addr} {ss : List ByteArray} (h : SlS w a ss) (hb : Below w.heap.size w w') : SlS w' a ss := fun hn => by
  obtain ⟨b, off, e, hlt, hc⟩ := h hn
  exact ⟨b, off, e, Nat.lt_of_lt_of_le hlt hb.size, fun k s hk => (hb.cell (p := ⟨b, off + k, none⟩) hlt).trans (hc k s hk)⟩
theorem own_sls {w : World} {B : Nat} {t : TypeId} {a : Option Addr} {c n : Nat} {ss : List ByteArray} (h : w.ownsRow B t 1 (.slice a n c) n (ss.map Value.string)) (hn : ss.length = n) : SlS w a ss := fun h0 => by
  rcases h.2 with ⟨_, h1⟩ | ⟨g, cap, cur, e, _, hh, _⟩
  · omega
  · injection e with e1 e2 e3
    subst e1; subst e3
    have hl : g < w.heap.size := by
      rcases Nat.lt_or_ge g w.heap.size with h4 | h4
      · exact h4
      · rw [Array.getElem?_eq_none h4] at hh; cases hh
    refine ⟨g, 0, rfl, hl, fun k s hk => ?_⟩
    have h2 := h.cellAt k (by have := (List.getElem?_eq_some_iff.1 hk).1; omega)
    rw [Nat.zero_add, h2, List.getElem?_map, hk]; rfl
/-- The texts that marking leaves. -/
def MarkedT (k i : Nat) (L : List Value) : Prop := ∀ j, j < i → L[j]? = some (.string (mtext (k + j)))
theorem MarkedT.more {k i : Nat} {L : List Value} (h : MarkedT k i L) (hi : i < L.length) : MarkedT k (i + 1) (L.set i (.string (mtext (k + i)))) := fun j hj => by
  by_cases e : j = i
  · subst e; rw [List.getElem?_set_self hi]
  · rw [List.getElem?_set_ne (Ne.symm e)]; exact h j (by omega)
/-- What marking leaves of entries. -/
def MarkedE (k i : Nat) (L : List Value) : Prop := ∀ j, j < i → L[j * 3]? = some (.string (mtext (k + 3 * j))) ∧ L[j * 3 + 1]? = some (.bool (decide ((k + 3 * j + 1) % 3 = 0))) ∧ L[j * 3 + 2]? = some (.string (mtext (k + 3 * j + 2)))
/-- What marking leaves of marks. -/
def MarkedM (k i : Nat) (L : List Value) : Prop := ∀ j, j < i → L[j * 3]? = some (.string (mtext (k + 3 * j))) ∧ L[j * 3 + 1]? = some (.int .i64 ((k : Int) + 3 * j + 1)) ∧ L[j * 3 + 2]? = some (.string (mtext (k + 3 * j + 2)))
theorem set_three {L : List Value} {i : Nat} (h : i * 3 + 3 ≤ L.length) (a b c : Value) :
    (∀ j, j < i → ∀ q, q < 3 → (((L.set (i * 3) a).set (i * 3 + 1) b).set (i * 3 + 2) c)[j * 3 + q]? = L[j * 3 + q]?) ∧
    (((L.set (i * 3) a).set (i * 3 + 1) b).set (i * 3 + 2) c)[i * 3]? = some a ∧ (((L.set (i * 3) a).set (i * 3 + 1) b).set (i * 3 + 2) c)[i * 3 + 1]? = some b ∧ (((L.set (i * 3) a).set (i * 3 + 1) b).set (i * 3 + 2) c)[i * 3 + 2]? = some c := by
  refine ⟨fun j hj q hq => ?_, ?_, ?_, ?_⟩
  · rw [List.getElem?_set_ne (by omega), List.getElem?_set_ne (by omega), List.getElem?_set_ne (by omega)]
  · rw [List.getElem?_set_ne (by omega), List.getElem?_set_ne (by omega), List.getElem?_set_self (by omega)]
  · rw [List.getElem?_set_ne (by omega), List.getElem?_set_self (by simp; omega)]
  · rw [List.getElem?_set_self (by simp; omega)]
theorem MarkedE.more {k i : Nat} {L : List Value} (h : MarkedE k i L) (hi : i * 3 + 3 ≤ L.length) : MarkedE k (i + 1) (((L.set (i * 3) (.string (mtext (k + 3 * i)))).set (i * 3 + 1) (.bool (decide ((k + 3 * i + 1) % 3 = 0)))).set (i * 3 + 2) (.string (mtext (k + 3 * i + 2)))) := fun j hj => by
  obtain ⟨h0, h1, h2, h3⟩ := set_three hi (.string (mtext (k + 3 * i))) (.bool (decide ((k + 3 * i + 1) % 3 = 0))) (.string (mtext (k + 3 * i + 2)))
  by_cases e : j = i
  · subst e; exact ⟨h1, h2, h3⟩
  · have hji : j < i := by omega
    obtain ⟨g1, g2, g3⟩ := h j hji
    exact ⟨(h0 j hji 0 (by omega)).trans g1, (h0 j hji 1 (by omega)).trans g2, (h0 j hji 2 (by omega)).trans g3⟩
theorem MarkedM.more {k i : Nat} {L : List Value} (h : MarkedM k i L) (hi : i * 3 + 3 ≤ L.length) : MarkedM k (i + 1) (((L.set (i * 3) (.string (mtext (k + 3 * i)))).set (i * 3 + 1) (.int .i64 ((k : Int) + 3 * i + 1))).set (i * 3 + 2) (.string (mtext (k + 3 * i + 2)))) := fun j hj => by
  obtain ⟨h0, h1, h2, h3⟩ := set_three hi (.string (mtext (k + 3 * i))) (.int .i64 ((k : Int) + 3 * i + 1)) (.string (mtext (k + 3 * i + 2)))
  by_cases e : j = i
  · subst e; exact ⟨h1, h2, h3⟩
  · have hji : j < i := by omega
    obtain ⟨g1, g2, g3⟩ := h j hji
    exact ⟨(h0 j hji 0 (by omega)).trans g1, (h0 j hji 1 (by omega)).trans g2, (h0 j hji 2 (by omega)).trans g3⟩
end Go.Proofs.YtdhbdcmnbhjjaaaGreatDoor
namespace Go.Proofs.YtdhbdcmnbhjjaaaGreatDoor
open Go.RowKit
abbrev zeroE : En := ⟨⟨#[]⟩, false, ⟨#[]⟩⟩
def optE : Option En → En
  | some e => e
  | none => zeroE
theorem optV_eq (o : Option En) : optV o = .tuple #[(optE o).val, .bool o.isSome] := by cases o <;> rfl
theorem fold_pl (xs ys : List En) : (ys.foldl (putP En.bs) xs).map En.pl = (ys.map En.pl).foldl (putP PE.p) (xs.map En.pl) := by
  induction ys generalizing xs with
  | nil => rfl
  | cons y r ih => rw [List.foldl_cons, ih, List.map_cons, List.foldl_cons, putP_map En.pl (f := En.bs) (g := PE.p) (fun _ => rfl)]
theorem fold_len2 (xs ys : List En) : (ys.foldl (putP En.bs) xs).length ≤ xs.length + ys.length := by
  induction ys generalizing xs with
  | nil => simp
  | cons y r ih =>
    rw [List.foldl_cons]
    have h1 := ih (putP En.bs xs y)
    have h2 : (putP En.bs xs y).length ≤ xs.length + 1 := by
      clear ih h1
      induction xs with
      | nil => simp [putP]
      | cons x a ih =>
        unfold putP
        split
        · simp only [List.length_cons]; omega
        · split <;> simp
    simp only [List.length_cons]; omega
/-- What is told of the first entries. -/
def diffs (xs ys : List En) (zs : List En) : List Bs := ((zs.map En.pl).filter fun e => decide (atP PE.p (xs.map En.pl) e.p ≠ atP PE.p (ys.map En.pl) e.p)).map PE.p
theorem getE_at (xs : List En) (q : ByteArray) : atP PE.p (xs.map En.pl) q.data.toList = (getE xs q).map En.pl := by rw [← getL_at]; exact getE_pl xs q
theorem pl_opt_inj {a b : Option En} (h : a.map En.pl = b.map En.pl) : a = b := by
  cases a with
  | none =>
    cases b with
    | none => rfl
    | some _ => cases h
  | some e =>
    cases b with
    | none => cases h
    | some f => rw [En.pl_inj (Option.some.inj h)]
theorem diffs_eq {xs ys zs : List En} {z : En} (h : getE xs z.p = getE ys z.p) : diffs xs ys (zs ++ [z]) = diffs xs ys zs := by
  unfold diffs
  rw [List.map_append, List.filter_append, List.map_append]
  have h1 : atP PE.p (xs.map En.pl) z.pl.p = atP PE.p (ys.map En.pl) z.pl.p := by
    show atP PE.p (xs.map En.pl) z.p.data.toList = atP PE.p (ys.map En.pl) z.p.data.toList
    rw [getE_at, getE_at, h]
  simp [h1]
theorem diffs_ne {xs ys zs : List En} {z : En} (h : getE xs z.p ≠ getE ys z.p) : diffs xs ys (zs ++ [z]) = diffs xs ys zs ++ [z.p.data.toList] := by
  unfold diffs
  rw [List.map_append, List.filter_append, List.map_append]
  have h1 : atP PE.p (xs.map En.pl) z.pl.p ≠ atP PE.p (ys.map En.pl) z.pl.p := by
    show atP PE.p (xs.map En.pl) z.p.data.toList ≠ atP PE.p (ys.map En.pl) z.p.data.toList
    rw [getE_at, getE_at]
    exact fun h2 => h (pl_opt_inj h2)
  simp [h1]; rfl
theorem take_snoc' {α : Type} {xs : List α} {k : Nat} {e : α} (he : xs[k]? = some e) : xs.take (k + 1) = xs.take k ++ [e] := by
  have h1 := List.take_succ_eq_append_getElem (l := xs) (i := k) (List.getElem?_eq_some_iff.1 he).1
  rw [(List.getElem?_eq_some_iff.1 he).2] at h1
  exact h1
/-- A slice of entries under way. -/
def ReadEv (w : World) (v : Value) (zs : List En) : Prop := ∃ b off c, v = .slice (some ⟨b, off, none⟩) zs.length c ∧ zs.length ≤ c ∧ c ≤ maxLen ∧ b < w.heap.size ∧ SlF En.cells w (some ⟨b, off, none⟩) zs
theorem made_read {ys : List En} {w : World} {e : Ending} {w' : World} (h : MadeEn ys w e w') : ∃ v, e = .returned v ∧ ReadEv w' v ys ∧ Below w.heap.size w w' := by
  obtain ⟨g, c, rfl, h1, h2, h3, h4⟩ := h
  exact ⟨_, rfl, ⟨g, 0, c, rfl, h1, h2, (h3.lt g rfl).2, own_slfEn' h3⟩, h4⟩
set_option maxRecDepth 100000 in
set_option maxHeartbeats 8000000 in
theorem l2Turned_c (b0 off0 c : Nat) (a' : Option Addr) (c' : Nat) (xs ys : List En) (w : World) (hs : SlF En.cells w (some ⟨b0, off0, none⟩) xs) (hs' : SlF En.cells w a' ys) (hb0 : b0 < w.heap.size) (hc : xs.length ≤ c) (hcm : c ≤ maxLen) (hx : TOk (xs.map En.pl)) (hy : TOk (ys.map En.pl)) :
    Calls Tryz.prog 97 #[.slice (some ⟨b0, off0, none⟩) xs.length c, .slice a' ys.length c'] w (MadeSt (turnedL (xs.map En.pl) (ys.map En.pl)) w) := by
  have HE := strElt
  have hx16 : xs.length ≤ 16 := by have := hx.most; rw [List.length_map] at this; exact this
  have hy16 : ys.length ≤ 16 := by have := hy.most; rw [List.length_map] at this; exact this
  have hx63 : xs.length ≤ maxLen := by unfold maxLen; omega
  have hy63 : ys.length ≤ maxLen := by unfold maxLen; omega
  have HL := Lib.hid (show turnedL (xs.map En.pl) (ys.map En.pl) = diffs xs ys (ys.foldl (putP En.bs) xs) by unfold turnedL diffs; rw [fold_pl])
  obtain ⟨L, hL⟩ : ∃ L, turnedL (xs.map En.pl) (ys.map En.pl) = L := ⟨_, rfl⟩
  have HLL := Lib.hid (hL.symm.trans HL.out)
  have HG := fun (q : ByteArray) (o : Option En) (ho : Hid (lgetE xs q = o)) W (h : SlF En.cells W (some ⟨b0, off0, none⟩) xs) => Lib.hid ((l2Get_c (some ⟨b0, off0, none⟩) c xs q o ho W h hx63).mono fun _ _ ⟨h1, h2⟩ => (⟨h1.trans (by rw [optV_eq]), h2⟩ : _ = Ending.returned (.tuple #[(optE o).val, .bool o.isSome]) ∧ _))
  have HG' := fun (q : ByteArray) (o : Option En) (ho : Hid (lgetE ys q = o)) W (h : SlF En.cells W a' ys) => Lib.hid ((l2Get_c a' c' ys q o ho W h hy63).mono fun _ _ ⟨h1, h2⟩ => (⟨h1.trans (by rw [optV_eq]), h2⟩ : _ = Ending.returned (.tuple #[(optE o).val, .bool o.isSome]) ∧ _))
  have HZP : Hid (∀ z ∈ ys.foldl (putP En.bs) xs, z.p.data.toList ≠ [47]) := fun z hz hr => by
    have h1 : z.pl ∈ (ys.map En.pl).foldl (putP PE.p) (xs.map En.pl) := by rw [← fold_pl]; exact List.mem_map.2 ⟨z, hz, rfl⟩
    rcases (mem_fold hy.ordP.dis hx.ordP z.pl).1 h1 with h2 | ⟨h2, _⟩
    · have := hy.pth h2; rw [show z.pl.p = [47] from hr, root_no] at this; cases this
    · have := hx.pth h2; rw [show z.pl.p = [47] from hr, root_no] at this; cases this
  have HS := Lib.hid hs
  have HS' := Lib.hid hs'
  have HR0 : Hid (ReadEv w (.slice (some ⟨b0, off0, none⟩) xs.length c) xs) := ⟨b0, off0, c, rfl, hc, hcm, hb0, hs⟩
  rw [hL]
  obtain ⟨n, hn⟩ : ∃ n, xs.length = n := ⟨_, rfl⟩
  obtain ⟨n', hn'⟩ : ∃ n, ys.length = n := ⟨_, rfl⟩
  have HN := Lib.hid hn
  have HN' := Lib.hid hn'
  rw [hn] at HG HR0 hx16 ⊢
  rw [hn'] at HG' hy16 ⊢
  have GG := Lib.hid HG
  have GG' := Lib.hid HG'
  clear hn hn' hL hs hs' HG HG' hx hy hx63 hy63 hc hcm HL
  go_enter Tryz.func97, Tryz.ntmps97
  go_wp2
  go_loopw [5, 6] (fun v i wr => ∃ k : Nat, k ≤ n' ∧ i = .int .i64 k ∧ ReadEv wr v ((ys.take k).foldl (putP En.bs) xs) ∧ Below w.heap.size w wr) (fun _ i _ => n' - (intOf i).toNat)
  case atStart => exact ⟨0, Nat.zero_le _, rfl, HR0.out, Below.refl _ _⟩
  case round =>
    obtain ⟨k, hk, rfl, hrd, hb⟩ := hrel
    by_cases hlt : k < n'
    · obtain ⟨f, hff⟩ : ∃ f, ys[k]? = some f := ⟨_, List.getElem?_eq_getElem (by rw [HN'.out]; exact hlt)⟩
      have hsw' := HS'.out.below hb
      obtain ⟨b', off', rfl, _⟩ := hsw'.addr (by rw [HN'.out]; omega)
      obtain ⟨g0, g1, g2⟩ := en_at hsw' k f hff
      obtain ⟨b, off, cz, rfl, hz1, hz2, hz3, hsz⟩ := hrd
      obtain ⟨zs, hzs⟩ : ∃ zs, (ys.take k).foldl (putP En.bs) xs = zs := ⟨_, rfl⟩
      rw [hzs] at hz1 hsz ⊢
      have HZN : Hid ((ys.take (k + 1)).foldl (putP En.bs) xs = putP En.bs zs f) := by rw [Hid, take_snoc' hff, List.foldl_append, hzs]; rfl
      have hzl : zs.length ≤ 1000000 := by
        have h1 := fold_len2 xs (ys.take k)
        rw [hzs, HN.out, List.length_take, HN'.out] at h1
        omega
      have HP := Lib.hid (l2Put_c b off cz zs f _ (Lib.hid rfl) wr hsz hz3 hzl hz1 hz2)
      obtain ⟨m, hm⟩ : ∃ m, zs.length = m := ⟨_, rfl⟩
      rw [hm] at HP ⊢
      clear hzs hz1 hz2 hz3 hzl hsz hm hff hsw'
      go_wp2_with fail
      refine HP.out.mono ?_
      intro e W hmade
      obtain ⟨v, rfl, hrd, hq⟩ := made_read hmade
      rw [← HZN.out] at hrd
      replace hb := chn hb hq
      clear hmade hq
      go_wp2
      go_roundw
      case rel => exact ⟨k + 1, by omega, by go_num, hrd, hb⟩
      case measure => simp [intOf]; omega
    · obtain rfl : k = n' := by omega
      obtain ⟨b, off, cz, rfl, hz1, hz2, hz3, hsz⟩ := hrd
      have hall : ys.take k = ys := by rw [← HN'.out, List.take_length]
      rw [hall] at hz1 hsz ⊢
      obtain ⟨zs, hzs⟩ : ∃ zs, ys.foldl (putP En.bs) xs = zs := ⟨_, rfl⟩
      have HZS := Lib.hid hzs
      rw [hzs] at hz1 hsz HLL HZP ⊢
      have hzl : zs.length ≤ 32 := by
        have h1 := fold_len2 xs ys
        rw [hzs, HN.out, HN'.out] at h1
        omega
      obtain ⟨m, hm⟩ : ∃ m, zs.length = m := ⟨_, rfl⟩
      have HM := Lib.hid hm
      rw [hm] at hz1 hzl ⊢
      have HSZ := Lib.hid hsz
      have HB0 := Lib.hid hb
      have HALLZ : Hid (zs.take m = zs) := by rw [Hid, ← hm, List.take_length]
      clear hzs hm hsz hall hb
      obtain ⟨wo, hwo⟩ : ∃ wo : World, wo = wr := ⟨_, rfl⟩
      subst hwo
      go_wp2
      go_loopw [7, 8, 9, 10, 11, 12] (fun v i _ _ _ _ wr => ∃ (k : Nat) (ss : List ByteArray), k ≤ m ∧ ss.length ≤ k ∧ i = .int .i64 k ∧ ss.map (·.data.toList) = diffs xs ys (zs.take k) ∧ wr.ownsRow wo.heap.size 9 1 v ss.length (ss.map Value.string) ∧ Below wo.heap.size wo wr) (fun _ i _ _ _ _ _ => m - (intOf i).toNat)
      case atStart => exact ⟨0, [], Nat.zero_le _, Nat.zero_le _, rfl, rfl, World.ownsRow_lit _ #[] 0 (Nat.le_refl _) (Nat.zero_le _) rfl, bellow_alloc _ _⟩
      case round =>
        clear hb0
        obtain ⟨k, ss, hk, hsl, rfl, hss, hown, hbo⟩ := hrel
        have hb := HB0.out.trans (hbo.mono HB0.out.size)
        have HSS := Lib.hid hss
        clear hss
        by_cases hlt : k < m
        · obtain ⟨z, hzz⟩ : ∃ z, zs[k]? = some z := ⟨_, List.getElem?_eq_getElem (by rw [HM.out]; exact hlt)⟩
          have hsz := HSZ.out.below hbo
          obtain ⟨d0, _, _⟩ := en_at hsz k z hzz
          have hzr := HZP.out z (List.mem_of_getElem? hzz)
          have HTK := Lib.hid (take_snoc' hzz)
          obtain ⟨zp, zd, zx⟩ := z
          obtain ⟨o1, ho1⟩ : ∃ o, getE xs zp = o := ⟨_, rfl⟩
          obtain ⟨o2, ho2⟩ : ∃ o, getE ys zp = o := ⟨_, rfl⟩
          have HQ1 : Hid (lgetE xs zp = o1) := by rw [Hid, lgetE, if_neg hzr]; exact ho1
          have HQ2 : Hid (lgetE ys zp = o2) := by rw [Hid, lgetE, if_neg hzr]; exact ho2
          have HH1 := Lib.hid ho1
          have HH2 := Lib.hid ho2
          have HA1 := GG.out zp o1 HQ1
          have HA2 := GG'.out zp o2 HQ2
          obtain ⟨⟨p1, dd1, x1⟩, hE1⟩ : ∃ e, optE o1 = e := ⟨_, rfl⟩
          obtain ⟨⟨p2, dd2, x2⟩, hE2⟩ : ∃ e, optE o2 = e := ⟨_, rfl⟩
          obtain ⟨s1, hs1⟩ : ∃ s, o1.isSome = s := ⟨_, rfl⟩
          obtain ⟨s2, hs2⟩ : ∃ s, o2.isSome = s := ⟨_, rfl⟩
          rw [hE1, hs1] at HA1
          rw [hE2, hs2] at HA2
          have GA1 := Lib.hid HA1
          have GA2 := Lib.hid HA2
          have HEQ : Hid ((s1 = s2 ∧ p1 = p2 ∧ dd1 = dd2 ∧ x1 = x2) ↔ o1 = o2) := by
            rw [Hid, ← hs1, ← hs2]
            constructor
            · rintro ⟨h1, h2, h3, h4⟩
              cases o1 with
              | none =>
                cases o2 with
                | none => rfl
                | some _ => cases h1
              | some e =>
                cases o2 with
                | none => cases h1
                | some f =>
                  have e1 : e = ⟨p1, dd1, x1⟩ := hE1
                  have e2 : f = ⟨p2, dd2, x2⟩ := hE2
                  rw [e1, e2, h2, h3, h4]
            · rintro rfl
              have := hE1.symm.trans hE2
              injection this with h1 h2 h3
              exact ⟨rfl, h1, h2, h3⟩
          clear hzr hzz ho1 ho2 hE1 hE2 hs1 hs2 HA1 HA2 hsz
          by_cases heq : o1 = o2
          · obtain ⟨rfl, rfl, rfl, rfl⟩ := HEQ.out.2 heq
            have HSN : Hid (diffs xs ys (zs.take (k + 1)) = diffs xs ys (zs.take k)) := by rw [Hid, HTK.out]; exact diffs_eq (HH1.out.trans (heq.trans HH2.out.symm))
            clear heq HEQ
            go_wp2_with fail
            refine (GA1.out _ (HS.out.below hb)).out.mono ?_; rintro e W ⟨rfl, hq⟩; replace hb := chn hb hq; replace hbo := chn hbo hq; replace hown := own_below hown hq; replace d0 := keepc hq d0; clear hq
            have a0 := new_cell W #[.string p1, .bool dd1, .string x1] 39 0 (.string p1) rfl
            have a1 := new_cell W #[.string p1, .bool dd1, .string x1] 39 1 (.bool dd1) rfl
            have a2 := new_cell W #[.string p1, .bool dd1, .string x1] 39 2 (.string x1) rfl
            replace hown := own_below hown (bellow_alloc _ (.cells #[.string p1, .bool dd1, .string x1] 39)); replace hbo := chn hbo (bellow_alloc _ (.cells #[.string p1, .bool dd1, .string x1] 39))
            replace hb := hb.alloc hb.size (.cells #[.string p1, .bool dd1, .string x1] 39); replace d0 := keepc (bellow_alloc _ (.cells #[.string p1, .bool dd1, .string x1] 39)) d0; 
            go_wp2_with fail
            refine (GA2.out _ (HS'.out.below hb)).out.mono ?_; rintro e W2 ⟨rfl, hq⟩; replace hb := chn hb hq; replace hbo := chn hbo hq; replace hown := own_below hown hq; replace d0 := keepc hq d0; replace a0 := keepc hq a0; replace a1 := keepc hq a1; replace a2 := keepc hq a2; clear hq
            replace hown := own_below hown (bellow_alloc _ (.cells #[.string p1, .bool dd1, .string x1] 39)); replace hbo := chn hbo (bellow_alloc _ (.cells #[.string p1, .bool dd1, .string x1] 39))
            replace hb := hb.alloc hb.size (.cells #[.string p1, .bool dd1, .string x1] 39); replace d0 := keepc (bellow_alloc _ (.cells #[.string p1, .bool dd1, .string x1] 39)) d0; replace a0 := keepc (bellow_alloc _ (.cells #[.string p1, .bool dd1, .string x1] 39)) a0; replace a1 := keepc (bellow_alloc _ (.cells #[.string p1, .bool dd1, .string x1] 39)) a1; replace a2 := keepc (bellow_alloc _ (.cells #[.string p1, .bool dd1, .string x1] 39)) a2; 
            go_wp2
            go_roundw
            case rel => exact ⟨k + 1, ss, by omega, by omega, by go_num, by rw [HSN.out]; exact HSS.out, hown, hbo⟩
            case measure => simp [intOf]; omega
          · have HSN : Hid (diffs xs ys (zs.take (k + 1)) = diffs xs ys (zs.take k) ++ [zp.data.toList]) := by rw [Hid, HTK.out]; exact diffs_ne (fun h => heq (HH1.out.symm.trans (h.trans HH2.out)))
            have HNE := Lib.hid (fun h => heq (HEQ.out.1 h))
            clear heq HEQ
            by_cases e1 : s1 = s2
            · subst e1
              by_cases e2 : p1 = p2
              · subst e2
                by_cases e3 : dd1 = dd2
                · subst e3
                  have q := bq_no (s := x1) (t := x2) (fun h => HNE.out ⟨rfl, rfl, rfl, h⟩)
                  go_wp2_with fail
                  refine (GA1.out _ (HS.out.below hb)).out.mono ?_; rintro e W ⟨rfl, hq⟩; replace hb := chn hb hq; replace hbo := chn hbo hq; replace hown := own_below hown hq; replace d0 := keepc hq d0; clear hq
                  have a0 := new_cell W #[.string p1, .bool dd1, .string x1] 39 0 (.string p1) rfl
                  have a1 := new_cell W #[.string p1, .bool dd1, .string x1] 39 1 (.bool dd1) rfl
                  have a2 := new_cell W #[.string p1, .bool dd1, .string x1] 39 2 (.string x1) rfl
                  replace hown := own_below hown (bellow_alloc _ (.cells #[.string p1, .bool dd1, .string x1] 39)); replace hbo := chn hbo (bellow_alloc _ (.cells #[.string p1, .bool dd1, .string x1] 39))
                  replace hb := hb.alloc hb.size (.cells #[.string p1, .bool dd1, .string x1] 39); replace d0 := keepc (bellow_alloc _ (.cells #[.string p1, .bool dd1, .string x1] 39)) d0; 
                  go_wp2_with fail
                  refine (GA2.out _ (HS'.out.below hb)).out.mono ?_; rintro e W2 ⟨rfl, hq⟩; replace hb := chn hb hq; replace hbo := chn hbo hq; replace hown := own_below hown hq; replace d0 := keepc hq d0; replace a0 := keepc hq a0; replace a1 := keepc hq a1; replace a2 := keepc hq a2; clear hq
                  replace hown := own_below hown (bellow_alloc _ (.cells #[.string p1, .bool dd1, .string x2] 39)); replace hbo := chn hbo (bellow_alloc _ (.cells #[.string p1, .bool dd1, .string x2] 39))
                  replace hb := hb.alloc hb.size (.cells #[.string p1, .bool dd1, .string x2] 39); replace d0 := keepc (bellow_alloc _ (.cells #[.string p1, .bool dd1, .string x2] 39)) d0; replace a0 := keepc (bellow_alloc _ (.cells #[.string p1, .bool dd1, .string x2] 39)) a0; replace a1 := keepc (bellow_alloc _ (.cells #[.string p1, .bool dd1, .string x2] 39)) a1; replace a2 := keepc (bellow_alloc _ (.cells #[.string p1, .bool dd1, .string x2] 39)) a2; 
                  go_wp2_with (at_builtin; go_must (refine wp_app1H (by rfl) _ _ 52 (by rfl) HE wo.heap.size wo.heap.size wo _ #[.string zp] _ _ _ (by rfl) (W2.heap.size + 1) (by simp) (by rfl) hown (by rfl) (by simp [Value.oneCell']) (by omega) hbo.size hbo (Nat.le_refl _) ?_); intro v' w1 hown1 hbel1 _ _)
                  go_roundw
                  case rel => exact ⟨k + 1, ss ++ [zp], by omega, by simp; omega, by go_num, by rw [List.map_append, HSS.out, HSN.out]; rfl, by simpa using hown1, hbel1⟩
                  case measure => simp [intOf]; omega
                · have q : (dd1 == dd2) = false := by rw [beq_eq_false_iff_ne]; exact e3
                  clear e3
                  go_wp2_with fail
                  refine (GA1.out _ (HS.out.below hb)).out.mono ?_; rintro e W ⟨rfl, hq⟩; replace hb := chn hb hq; replace hbo := chn hbo hq; replace hown := own_below hown hq; replace d0 := keepc hq d0; clear hq
                  have a0 := new_cell W #[.string p1, .bool dd1, .string x1] 39 0 (.string p1) rfl
                  have a1 := new_cell W #[.string p1, .bool dd1, .string x1] 39 1 (.bool dd1) rfl
                  have a2 := new_cell W #[.string p1, .bool dd1, .string x1] 39 2 (.string x1) rfl
                  replace hown := own_below hown (bellow_alloc _ (.cells #[.string p1, .bool dd1, .string x1] 39)); replace hbo := chn hbo (bellow_alloc _ (.cells #[.string p1, .bool dd1, .string x1] 39))
                  replace hb := hb.alloc hb.size (.cells #[.string p1, .bool dd1, .string x1] 39); replace d0 := keepc (bellow_alloc _ (.cells #[.string p1, .bool dd1, .string x1] 39)) d0; 
                  go_wp2_with fail
                  refine (GA2.out _ (HS'.out.below hb)).out.mono ?_; rintro e W2 ⟨rfl, hq⟩; replace hb := chn hb hq; replace hbo := chn hbo hq; replace hown := own_below hown hq; replace d0 := keepc hq d0; replace a0 := keepc hq a0; replace a1 := keepc hq a1; replace a2 := keepc hq a2; clear hq
                  replace hown := own_below hown (bellow_alloc _ (.cells #[.string p1, .bool dd2, .string x2] 39)); replace hbo := chn hbo (bellow_alloc _ (.cells #[.string p1, .bool dd2, .string x2] 39))
                  replace hb := hb.alloc hb.size (.cells #[.string p1, .bool dd2, .string x2] 39); replace d0 := keepc (bellow_alloc _ (.cells #[.string p1, .bool dd2, .string x2] 39)) d0; replace a0 := keepc (bellow_alloc _ (.cells #[.string p1, .bool dd2, .string x2] 39)) a0; replace a1 := keepc (bellow_alloc _ (.cells #[.string p1, .bool dd2, .string x2] 39)) a1; replace a2 := keepc (bellow_alloc _ (.cells #[.string p1, .bool dd2, .string x2] 39)) a2; 
                  go_wp2_with (at_builtin; go_must (refine wp_app1H (by rfl) _ _ 52 (by rfl) HE wo.heap.size wo.heap.size wo _ #[.string zp] _ _ _ (by rfl) (W2.heap.size + 1) (by simp) (by rfl) hown (by rfl) (by simp [Value.oneCell']) (by omega) hbo.size hbo (Nat.le_refl _) ?_); intro v' w1 hown1 hbel1 _ _)
                  go_roundw
                  case rel => exact ⟨k + 1, ss ++ [zp], by omega, by simp; omega, by go_num, by rw [List.map_append, HSS.out, HSN.out]; rfl, by simpa using hown1, hbel1⟩
                  case measure => simp [intOf]; omega
              · have q := bq_no e2
                clear e2
                go_wp2_with fail
                refine (GA1.out _ (HS.out.below hb)).out.mono ?_; rintro e W ⟨rfl, hq⟩; replace hb := chn hb hq; replace hbo := chn hbo hq; replace hown := own_below hown hq; replace d0 := keepc hq d0; clear hq
                have a0 := new_cell W #[.string p1, .bool dd1, .string x1] 39 0 (.string p1) rfl
                have a1 := new_cell W #[.string p1, .bool dd1, .string x1] 39 1 (.bool dd1) rfl
                have a2 := new_cell W #[.string p1, .bool dd1, .string x1] 39 2 (.string x1) rfl
                replace hown := own_below hown (bellow_alloc _ (.cells #[.string p1, .bool dd1, .string x1] 39)); replace hbo := chn hbo (bellow_alloc _ (.cells #[.string p1, .bool dd1, .string x1] 39))
                replace hb := hb.alloc hb.size (.cells #[.string p1, .bool dd1, .string x1] 39); replace d0 := keepc (bellow_alloc _ (.cells #[.string p1, .bool dd1, .string x1] 39)) d0; 
                go_wp2_with fail
                refine (GA2.out _ (HS'.out.below hb)).out.mono ?_; rintro e W2 ⟨rfl, hq⟩; replace hb := chn hb hq; replace hbo := chn hbo hq; replace hown := own_below hown hq; replace d0 := keepc hq d0; replace a0 := keepc hq a0; replace a1 := keepc hq a1; replace a2 := keepc hq a2; clear hq
                replace hown := own_below hown (bellow_alloc _ (.cells #[.string p2, .bool dd2, .string x2] 39)); replace hbo := chn hbo (bellow_alloc _ (.cells #[.string p2, .bool dd2, .string x2] 39))
                replace hb := hb.alloc hb.size (.cells #[.string p2, .bool dd2, .string x2] 39); replace d0 := keepc (bellow_alloc _ (.cells #[.string p2, .bool dd2, .string x2] 39)) d0; replace a0 := keepc (bellow_alloc _ (.cells #[.string p2, .bool dd2, .string x2] 39)) a0; replace a1 := keepc (bellow_alloc _ (.cells #[.string p2, .bool dd2, .string x2] 39)) a1; replace a2 := keepc (bellow_alloc _ (.cells #[.string p2, .bool dd2, .string x2] 39)) a2; 
                go_wp2_with (at_builtin; go_must (refine wp_app1H (by rfl) _ _ 52 (by rfl) HE wo.heap.size wo.heap.size wo _ #[.string zp] _ _ _ (by rfl) (W2.heap.size + 1) (by simp) (by rfl) hown (by rfl) (by simp [Value.oneCell']) (by omega) hbo.size hbo (Nat.le_refl _) ?_); intro v' w1 hown1 hbel1 _ _)
                go_roundw
                case rel => exact ⟨k + 1, ss ++ [zp], by omega, by simp; omega, by go_num, by rw [List.map_append, HSS.out, HSN.out]; rfl, by simpa using hown1, hbel1⟩
                case measure => simp [intOf]; omega
            · cases s1
              · cases s2
                · exact absurd rfl e1
                · clear e1
                  go_wp2_with fail
                  refine (GA1.out _ (HS.out.below hb)).out.mono ?_; rintro e W ⟨rfl, hq⟩; replace hb := chn hb hq; replace hbo := chn hbo hq; replace hown := own_below hown hq; replace d0 := keepc hq d0; clear hq
                  have a0 := new_cell W #[.string p1, .bool dd1, .string x1] 39 0 (.string p1) rfl
                  have a1 := new_cell W #[.string p1, .bool dd1, .string x1] 39 1 (.bool dd1) rfl
                  have a2 := new_cell W #[.string p1, .bool dd1, .string x1] 39 2 (.string x1) rfl
                  replace hown := own_below hown (bellow_alloc _ (.cells #[.string p1, .bool dd1, .string x1] 39)); replace hbo := chn hbo (bellow_alloc _ (.cells #[.string p1, .bool dd1, .string x1] 39))
                  replace hb := hb.alloc hb.size (.cells #[.string p1, .bool dd1, .string x1] 39); replace d0 := keepc (bellow_alloc _ (.cells #[.string p1, .bool dd1, .string x1] 39)) d0; 
                  go_wp2_with fail
                  refine (GA2.out _ (HS'.out.below hb)).out.mono ?_; rintro e W2 ⟨rfl, hq⟩; replace hb := chn hb hq; replace hbo := chn hbo hq; replace hown := own_below hown hq; replace d0 := keepc hq d0; replace a0 := keepc hq a0; replace a1 := keepc hq a1; replace a2 := keepc hq a2; clear hq
                  replace hown := own_below hown (bellow_alloc _ (.cells #[.string p2, .bool dd2, .string x2] 39)); replace hbo := chn hbo (bellow_alloc _ (.cells #[.string p2, .bool dd2, .string x2] 39))
                  replace hb := hb.alloc hb.size (.cells #[.string p2, .bool dd2, .string x2] 39); replace d0 := keepc (bellow_alloc _ (.cells #[.string p2, .bool dd2, .string x2] 39)) d0; replace a0 := keepc (bellow_alloc _ (.cells #[.string p2, .bool dd2, .string x2] 39)) a0; replace a1 := keepc (bellow_alloc _ (.cells #[.string p2, .bool dd2, .string x2] 39)) a1; replace a2 := keepc (bellow_alloc _ (.cells #[.string p2, .bool dd2, .string x2] 39)) a2; 
                  go_wp2_with (at_builtin; go_must (refine wp_app1H (by rfl) _ _ 52 (by rfl) HE wo.heap.size wo.heap.size wo _ #[.string zp] _ _ _ (by rfl) (W2.heap.size + 1) (by simp) (by rfl) hown (by rfl) (by simp [Value.oneCell']) (by omega) hbo.size hbo (Nat.le_refl _) ?_); intro v' w1 hown1 hbel1 _ _)
                  go_roundw
                  case rel => exact ⟨k + 1, ss ++ [zp], by omega, by simp; omega, by go_num, by rw [List.map_append, HSS.out, HSN.out]; rfl, by simpa using hown1, hbel1⟩
                  case measure => simp [intOf]; omega
              · cases s2
                · clear e1
                  go_wp2_with fail
                  refine (GA1.out _ (HS.out.below hb)).out.mono ?_; rintro e W ⟨rfl, hq⟩; replace hb := chn hb hq; replace hbo := chn hbo hq; replace hown := own_below hown hq; replace d0 := keepc hq d0; clear hq
                  have a0 := new_cell W #[.string p1, .bool dd1, .string x1] 39 0 (.string p1) rfl
                  have a1 := new_cell W #[.string p1, .bool dd1, .string x1] 39 1 (.bool dd1) rfl
                  have a2 := new_cell W #[.string p1, .bool dd1, .string x1] 39 2 (.string x1) rfl
                  replace hown := own_below hown (bellow_alloc _ (.cells #[.string p1, .bool dd1, .string x1] 39)); replace hbo := chn hbo (bellow_alloc _ (.cells #[.string p1, .bool dd1, .string x1] 39))
                  replace hb := hb.alloc hb.size (.cells #[.string p1, .bool dd1, .string x1] 39); replace d0 := keepc (bellow_alloc _ (.cells #[.string p1, .bool dd1, .string x1] 39)) d0; 
                  go_wp2_with fail
                  refine (GA2.out _ (HS'.out.below hb)).out.mono ?_; rintro e W2 ⟨rfl, hq⟩; replace hb := chn hb hq; replace hbo := chn hbo hq; replace hown := own_below hown hq; replace d0 := keepc hq d0; replace a0 := keepc hq a0; replace a1 := keepc hq a1; replace a2 := keepc hq a2; clear hq
                  replace hown := own_below hown (bellow_alloc _ (.cells #[.string p2, .bool dd2, .string x2] 39)); replace hbo := chn hbo (bellow_alloc _ (.cells #[.string p2, .bool dd2, .string x2] 39))
                  replace hb := hb.alloc hb.size (.cells #[.string p2, .bool dd2, .string x2] 39); replace d0 := keepc (bellow_alloc _ (.cells #[.string p2, .bool dd2, .string x2] 39)) d0; replace a0 := keepc (bellow_alloc _ (.cells #[.string p2, .bool dd2, .string x2] 39)) a0; replace a1 := keepc (bellow_alloc _ (.cells #[.string p2, .bool dd2, .string x2] 39)) a1; replace a2 := keepc (bellow_alloc _ (.cells #[.string p2, .bool dd2, .string x2] 39)) a2; 
                  go_wp2_with (at_builtin; go_must (refine wp_app1H (by rfl) _ _ 52 (by rfl) HE wo.heap.size wo.heap.size wo _ #[.string zp] _ _ _ (by rfl) (W2.heap.size + 1) (by simp) (by rfl) hown (by rfl) (by simp [Value.oneCell']) (by omega) hbo.size hbo (Nat.le_refl _) ?_); intro v' w1 hown1 hbel1 _ _)
                  go_roundw
                  case rel => exact ⟨k + 1, ss ++ [zp], by omega, by simp; omega, by go_num, by rw [List.map_append, HSS.out, HSN.out]; rfl, by simpa using hown1, hbel1⟩
                  case measure => simp [intOf]; omega
                · exact absurd rfl e1
        · obtain rfl : k = m := by omega
          have HF : Hid (ss.map (·.data.toList) = L) := by rw [Hid, HSS.out, HALLZ.out, HLL.out]
          go_wp2
          go_ret
          exact ⟨_, ss, rfl, HF.out, hown.mono HB0.out.size, hb⟩
end Go.Proofs.YtdhbdcmnbhjjaaaGreatDoor
