/- The walk of the law that opaque directories hide everything beneath: FnLayerBare. Conditions: none beyond what can be read. -/
import Derived.Test.YtdhbdcmnbhjjaabGreatDoorB6
import Derived.Deep.QuietTactic
import Derived.BigQuiet
namespace Go.Proofs.YtdhbdcmnbhjjaabGreatDoor
open Go.RowKit
theorem bare_law {l : List PM} {t : List PE} (h : lonB l t = true) {e : PE} (he : e ∈ onL l t) {m : PM} (hm : m ∈ l) (hk : m.k ≠ 2) (hu : underL e.p m.p = true) : m.k = 4 ∧ ∃ f ∈ l, f.p = e.p := by
  obtain ⟨h1, h2, _⟩ := lon_true h
  have h3 := at_on h1.ord h2.ordP e.p
  rw [atP_mem (on_ord l h2.ordP) he] at h3
  have hh : hidesL l e.p = true := hides_iff.2 ⟨m, hm, hk, .inr hu⟩
  cases hx : atP PM.p l e.p with
  | none => rw [hx, hh] at h3; simp at h3
  | some f =>
    obtain ⟨h4, h5⟩ := atP_some hx
    have hmp : pathOkL m.p = true := by
      have h6 := h1.mks m hm
      unfold markOkL at h6
      simp only [Bool.and_eq_true] at h6
      exact h6.1.1.2
    obtain ⟨g, hg, hgp, hgd⟩ := h1.anc h4 hmp (by rw [h5]; exact hu)
    have hgm : g = m := h1.same hg hm hgp
    rw [hgm] at hgd
    unfold dirM at hgd
    simp only [Bool.or_eq_true, decide_eq_true_eq] at hgd
    exact ⟨hgd.resolve_left hk, f, h4, h5⟩
set_option maxRecDepth 100000 in
set_option maxHeartbeats 8000000 in
theorem lawLayerBare_w (w : World) (a : Option Addr) (n c : Nat) (h : Code w a n c) : Calls Tryz.prog 3 #[.slice a n c] w (TrueB w) := by
  have hn := h.2.2
  by_cases hbig : 1048576 < n
  · clear h
    go_enter Tryz.func3, Tryz.ntmps3
    go_wp2
    go_ret
    exact ⟨rfl, Below.refl _ _⟩
  have HD := Lib.hid (drawLayerOn_c w a n c h)
  clear h
  go_enter Tryz.func3, Tryz.ntmps3
  go_wp2_with fail
  refine HD.out.mono ?_; rintro e W1 ⟨a1, c1, xs, a2, c2, ys, rfl, hR, hz, hx, hR2, hz2, hy, hb⟩
  have hcn := hR.cap
  have hcn2 := hR2.cap
  obtain ⟨n1, hn1⟩ : ∃ m, xs.length = m := ⟨_, rfl⟩
  obtain ⟨n2, hn2⟩ : ∃ m, ys.length = m := ⟨_, rfl⟩
  rw [hn1] at hx hcn ⊢
  rw [hn2] at hy hcn2 ⊢
  have HN1 := Lib.hid hn1
  have HN2 := Lib.hid hn2
  have HZ := Lib.hid hz
  have HZ2 := Lib.hid hz2
  obtain ⟨B, hB⟩ : ∃ b, lonB (xs.map Mk.pl) (ys.map En.pl) = b := ⟨_, rfl⟩
  obtain ⟨L, hL⟩ : ∃ b, lonL (xs.map Mk.pl) (ys.map En.pl) = b := ⟨_, rfl⟩
  have HLB := Lib.hid hB
  have HLL := Lib.hid hL
  have HI := Lib.hid (fun W (h : SlF Mk.cells W a1 xs) (h' : SlF En.cells W a2 ys) => onI_c a1 a2 c1 c2 n1 n2 xs ys L B (Lib.hid hB) (Lib.hid hL) W HN1.out HN2.out h h' (by omega) (by omega) HZ.out HZ2.out)
  have HS := Lib.hid (fun W (h : SlF Mk.cells W a1 xs) (h' : SlF En.cells W a2 ys) => onS_c a1 a2 c1 c2 n1 n2 xs ys L B (Lib.hid hB) (Lib.hid hL) W HN1.out HN2.out h h' hcn hcn2 (by omega) (by omega) HZ.out HZ2.out)
  clear hn1 hn2 hz hz2 HD hB hL
  go_wp2_with fail
  refine (HI.out _ hR.sl hR2.sl).mono ?_; rintro e W2 ⟨a3, c3, zs, rfl, hzs, ho3, hq⟩; replace hb := chn hb hq; replace hR := hR.below hq; replace hR2 := hR2.below hq; clear hq HI
  have hsl3 : SlF En.cells W2 a3 zs := own_slf (fun _ => rfl) ho3
  obtain ⟨n3, hn3⟩ : ∃ m, zs.length = m := ⟨_, rfl⟩
  have HN3 := Lib.hid hn3
  have HZS := Lib.hid hzs
  rw [hn3]
  clear hn3 ho3 hzs
  go_wp2_with fail
  refine (HS.out _ hR.sl hR2.sl).mono ?_; rintro e W3 ⟨a4, c4, us, rfl, hus, ho4, hq⟩; replace hb := chn hb hq; replace hR := hR.below hq; replace hR2 := hR2.below hq; replace hsl3 := hsl3.below hq; clear hq HS
  obtain rfl : us = zs := map_inj_ En.pl_inj (hus.trans HZS.out.symm)
  have hsl4 : SlF En.cells W3 a4 us := own_slf (fun _ => rfl) ho4
  rw [HN3.out]
  clear hus ho4
  have hBB : (B != B) = false := by cases B <;> rfl
  have hBE : (B == B) = true := by cases B <;> rfl
  have hlen3 : n3 ≤ 100 := by
    have h1 := congrArg List.length HZS.out
    rw [List.length_map, HN3.out, ← HLL.out] at h1
    unfold lonL at h1
    cases B with
    | true => rw [if_pos HLB.out] at h1; have := (lon_true HLB.out).2.2.1; omega
    | false => rw [HLB.out, if_neg (by decide)] at h1; simp at h1; omega
  clear hsl4 hR2
  cases B with
  | false =>
    go_wp2
    go_ret
    exact ⟨rfl, hb⟩
  | true =>
    have HBL : Hid (∀ e ∈ us, ∀ m ∈ xs, m.k ≠ 2 → underL e.p.data.toList m.p.data.toList = true → m.k = 4 ∧ ∃ f ∈ xs, f.p = e.p) := fun e he m hm hk hu => by
      have he2 : e.pl ∈ onL (xs.map Mk.pl) (ys.map En.pl) := by
        have h1 := List.mem_map_of_mem (f := En.pl) he
        rw [HZS.out, ← HLL.out, (lon_true HLB.out).2.2.2.1] at h1
        exact h1
      obtain ⟨h2, f, hf, h3⟩ := bare_law HLB.out he2 (List.mem_map_of_mem hm) hk hu
      obtain ⟨g, hg, rfl⟩ := List.mem_map.1 hf
      exact ⟨h2, g, hg, bytes_eq h3⟩
    have HSU : Hid (Small us) := tok_small (by rw [HZS.out, ← HLL.out, (lon_true HLB.out).2.2.2.1]; exact (lon_true HLB.out).2.2.2.2)
    have HB0 := Lib.hid hb
    have HR0 := Lib.hid hR
    have HX0 := Lib.hid hsl3
    clear HLB HLL HZS hb hR hsl3
    go_wp2
    go_loopw [9] (fun i wr => ∃ j : Nat, j ≤ n1 ∧ i = .int .i64 j ∧ Below W3.heap.size W3 wr) (fun i _ => n1 - (intOf i).toNat)
    case atStart => exact ⟨0, Nat.zero_le _, rfl, Below.refl _ _⟩
    case round =>
      obtain ⟨j, hj, rfl, hb⟩ := hrel
      by_cases hlt : j < n1
      · obtain ⟨m, hmm⟩ : ∃ e, xs[j]? = some e := ⟨_, List.getElem?_eq_getElem (by rw [HN1.out]; exact hlt)⟩
        have hmem := List.mem_of_getElem? hmm
        have HMM := Lib.hid hmm
        have hms := (HZ.out m hmem).1
        have i0 : (0 : Int) ≤ (j : Int) := by omega
        have i1 : (j : Int) < (n1 : Int) := by omega
        have HB1 := Lib.hid hb
        clear hmm hb
        go_wp2
        go_loopw [10] (fun i wr => ∃ k : Nat, k ≤ n3 ∧ i = .int .i64 k ∧ Below W3.heap.size W3 wr) (fun i _ => n3 - (intOf i).toNat)
        case atStart => exact ⟨0, Nat.zero_le _, rfl, HB1.out⟩
        case round =>
          obtain ⟨k, hk, rfl, hb⟩ := hrel
          by_cases hlt2 : k < n3
          · obtain ⟨e, hee⟩ : ∃ e, us[k]? = some e := ⟨_, List.getElem?_eq_getElem (by rw [HN3.out]; exact hlt2)⟩
            have hem := List.mem_of_getElem? hee
            have HEE := Lib.hid hee
            have hes := (HSU.out e hem).1
            have hsw := (HR0.out.below hb).sl
            have hsx := HX0.out.below hb
            have HBE := Lib.hid (HBL.out e hem m hmem)
            obtain ⟨b, off, rfl, _⟩ := hsw.addr (by rw [HN1.out]; omega)
            obtain ⟨b', off', rfl, _⟩ := hsx.addr (by rw [HN3.out]; omega)
            obtain ⟨d0, d1, _⟩ := mk_at hsw j m HMM.out
            obtain ⟨g0, _, _⟩ := en_at hsx k e hee
            have i2 : (0 : Int) ≤ (k : Int) := by omega
            have i3 : (k : Int) < (n3 : Int) := by omega
            clear hee hem hsw hsx
            by_cases hk2 : m.k = 2
            · have hkb : (m.k == 2) = true := by rw [beq_iff_eq]; exact hk2
              clear hk2 HBE
              go_wp2_with fail
              refine wp_region_held_drew (S := fun w' => Below _ _ w') (by kernel_rfl) (below_drew _) (fun hHeld => ?_)
              refine tk (i := 0) (d := (some 55)) (v := ?_) rfl rfl (by kernel_rfl) (by kernel_rfl) (by kernel_rfl) (fun _ _ _ h => h) (Or.inl ⟨by rfl, ?_⟩) hHeld ?_
              rotate_left
              · intro w hSw; have zd0 := keepc hSw d0; have zd1 := keepc hSw d1; have zg0 := keepc hSw g0; clear hSw; go_simp <;> with_reducible rfl
              (try simp only [Act.put, List.setIfInBounds_toArray, List.set_cons_zero, List.set_cons_succ])
              refine tk (i := 1) (d := (some 56)) (v := ?_) rfl rfl (by kernel_rfl) (by kernel_rfl) (by kernel_rfl) (fun _ _ _ h => h) (Or.inl ⟨by rfl, ?_⟩) hHeld ?_
              rotate_left
              · intro w hSw; have zd0 := keepc hSw d0; have zd1 := keepc hSw d1; have zg0 := keepc hSw g0; clear hSw; go_simp <;> with_reducible rfl
              (try simp only [Act.put, List.setIfInBounds_toArray, List.set_cons_zero, List.set_cons_succ])
              refine tk (i := 2) (d := (some 57)) (v := ?_) rfl rfl (by kernel_rfl) (by kernel_rfl) (by kernel_rfl) (fun _ _ _ h => h) (Or.inl ⟨by rfl, ?_⟩) hHeld ?_
              rotate_left
              · intro w hSw; have zd0 := keepc hSw d0; have zd1 := keepc hSw d1; have zg0 := keepc hSw g0; clear hSw; go_simp <;> with_reducible rfl
              (try simp only [Act.put, List.setIfInBounds_toArray, List.set_cons_zero, List.set_cons_succ])
              refine tk (i := 3) (d := (some 58)) (v := ?_) rfl rfl (by kernel_rfl) (by kernel_rfl) (by kernel_rfl) (fun _ _ _ h => h) (Or.inl ⟨by rfl, ?_⟩) hHeld ?_
              rotate_left
              · intro w hSw; have zd0 := keepc hSw d0; have zd1 := keepc hSw d1; have zg0 := keepc hSw g0; clear hSw; go_simp <;> with_reducible rfl
              (try simp only [Act.put, List.setIfInBounds_toArray, List.set_cons_zero, List.set_cons_succ])
              refine tk (i := 4) (d := (some 59)) (v := ?_) rfl rfl (by kernel_rfl) (by kernel_rfl) (by kernel_rfl) (fun _ _ _ h => h) (Or.inl ⟨by rfl, ?_⟩) hHeld ?_
              rotate_left
              · intro w hSw; have zd0 := keepc hSw d0; have zd1 := keepc hSw d1; have zg0 := keepc hSw g0; clear hSw; go_simp <;> with_reducible rfl
              (try simp only [Act.put, List.setIfInBounds_toArray, List.set_cons_zero, List.set_cons_succ])
              refine tk (i := 5) (d := (some 60)) (v := ?_) rfl rfl (by kernel_rfl) (by kernel_rfl) (by kernel_rfl) (fun _ _ _ h => h) (Or.inl ⟨by rfl, ?_⟩) hHeld ?_
              rotate_left
              · intro w hSw; have zd0 := keepc hSw d0; have zd1 := keepc hSw d1; have zg0 := keepc hSw g0; clear hSw; go_simp <;> with_reducible rfl
              (try simp only [Act.put, List.setIfInBounds_toArray, List.set_cons_zero, List.set_cons_succ])
              refine tk (i := 6) (d := (some 61)) (v := ?_) rfl rfl (by kernel_rfl) (by kernel_rfl) (by kernel_rfl) (fun _ _ _ h => h) (Or.inl ⟨by rfl, ?_⟩) hHeld ?_
              rotate_left
              · intro w hSw; have zd0 := keepc hSw d0; have zd1 := keepc hSw d1; have zg0 := keepc hSw g0; clear hSw; go_simp <;> with_reducible rfl
              (try simp only [Act.put, List.setIfInBounds_toArray, List.set_cons_zero, List.set_cons_succ])
              refine tk (i := 7) (d := (some 62)) (v := undef) rfl rfl (by kernel_rfl) (by kernel_rfl) (by kernel_rfl) (fun _ _ _ h => h) (Or.inr ⟨by kernel_rfl, rfl⟩) hHeld ?_
              (try simp only [Act.put, List.setIfInBounds_toArray, List.set_cons_zero, List.set_cons_succ])
              refine tk (i := 8) (d := (some 63)) (v := undef) rfl rfl (by kernel_rfl) (by kernel_rfl) (by kernel_rfl) (fun _ _ _ h => h) (Or.inr ⟨by kernel_rfl, rfl⟩) hHeld ?_
              (try simp only [Act.put, List.setIfInBounds_toArray, List.set_cons_zero, List.set_cons_succ])
              refine tk (i := 9) (d := (some 64)) (v := undef) rfl rfl (by kernel_rfl) (by kernel_rfl) (by kernel_rfl) (fun _ _ _ h => h) (Or.inr ⟨by kernel_rfl, rfl⟩) hHeld ?_
              (try simp only [Act.put, List.setIfInBounds_toArray, List.set_cons_zero, List.set_cons_succ])
              refine tk (i := 10) (d := (some 65)) (v := undef) rfl rfl (by kernel_rfl) (by kernel_rfl) (by kernel_rfl) (fun _ _ _ h => h) (Or.inr ⟨by kernel_rfl, rfl⟩) hHeld ?_
              (try simp only [Act.put, List.setIfInBounds_toArray, List.set_cons_zero, List.set_cons_succ])
              refine tk (i := 11) (d := (some 66)) (v := undef) rfl rfl (by kernel_rfl) (by kernel_rfl) (by kernel_rfl) (fun _ _ _ h => h) (Or.inr ⟨by kernel_rfl, rfl⟩) hHeld ?_
              (try simp only [Act.put, List.setIfInBounds_toArray, List.set_cons_zero, List.set_cons_succ])
              refine tk (i := 12) (d := (some 67)) (v := undef) rfl rfl (by kernel_rfl) (by kernel_rfl) (by kernel_rfl) (fun _ _ _ h => h) (Or.inr ⟨by kernel_rfl, rfl⟩) hHeld ?_
              (try simp only [Act.put, List.setIfInBounds_toArray, List.set_cons_zero, List.set_cons_succ])
              refine tk (i := 13) (d := (some 68)) (v := undef) rfl rfl (by kernel_rfl) (by kernel_rfl) (by kernel_rfl) (fun _ _ _ h => h) (Or.inr ⟨by kernel_rfl, rfl⟩) hHeld ?_
              (try simp only [Act.put, List.setIfInBounds_toArray, List.set_cons_zero, List.set_cons_succ])
              refine tk (i := 14) (d := (some 69)) (v := undef) rfl rfl (by kernel_rfl) (by kernel_rfl) (by kernel_rfl) (fun _ _ _ h => h) (Or.inr ⟨by kernel_rfl, rfl⟩) hHeld ?_
              (try simp only [Act.put, List.setIfInBounds_toArray, List.set_cons_zero, List.set_cons_succ])
              refine tk (i := 15) (d := (some 70)) (v := undef) rfl rfl (by kernel_rfl) (by kernel_rfl) (by kernel_rfl) (fun _ _ _ h => h) (Or.inr ⟨by kernel_rfl, rfl⟩) hHeld ?_
              (try simp only [Act.put, List.setIfInBounds_toArray, List.set_cons_zero, List.set_cons_succ])
              refine tk (i := 16) (d := (some 71)) (v := undef) rfl rfl (by kernel_rfl) (by kernel_rfl) (by kernel_rfl) (fun _ _ _ h => h) (Or.inr ⟨by kernel_rfl, rfl⟩) hHeld ?_
              (try simp only [Act.put, List.setIfInBounds_toArray, List.set_cons_zero, List.set_cons_succ])
              refine tk (i := 17) (d := (some 72)) (v := undef) rfl rfl (by kernel_rfl) (by kernel_rfl) (by kernel_rfl) (fun _ _ _ h => h) (Or.inr ⟨by kernel_rfl, rfl⟩) hHeld ?_
              (try simp only [Act.put, List.setIfInBounds_toArray, List.set_cons_zero, List.set_cons_succ])
              refine tk (i := 18) (d := (some 73)) (v := undef) rfl rfl (by kernel_rfl) (by kernel_rfl) (by kernel_rfl) (fun _ _ _ h => h) (Or.inr ⟨by kernel_rfl, rfl⟩) hHeld ?_
              (try simp only [Act.put, List.setIfInBounds_toArray, List.set_cons_zero, List.set_cons_succ])
              refine tk (i := 19) (d := (some 74)) (v := ?_) rfl rfl (by kernel_rfl) (by kernel_rfl) (by kernel_rfl) (fun _ _ _ h => h) (Or.inl ⟨by rfl, ?_⟩) hHeld ?_
              rotate_left
              · intro w hSw; have zd0 := keepc hSw d0; have zd1 := keepc hSw d1; have zg0 := keepc hSw g0; clear hSw; go_simp <;> with_reducible rfl
              (try simp only [Act.put, List.setIfInBounds_toArray, List.set_cons_zero, List.set_cons_succ])
              refine wpAnyH_done (by kernel_rfl) ?_ _
              replace hb := chn hb hHeld; clear hHeld
              go_wp2
              go_roundw
              case rel => exact ⟨k + 1, by omega, by go_num, by first | exact hb | exact drw hb _⟩
              case measure => simp [intOf]; omega
            · have hkb : (m.k == 2) = false := by rw [beq_eq_false_iff_ne]; exact hk2
              obtain ⟨u, hu⟩ : ∃ u, underL e.p.data.toList m.p.data.toList = u := ⟨_, rfl⟩
              have HU := Lib.hid hu
              clear hu
              go_wp2_with fail
              refine wp_region_held_drew (S := fun w' => Below _ _ w') (by kernel_rfl) (below_drew _) (fun hHeld => ?_)
              refine tk (i := 0) (d := (some 55)) (v := ?_) rfl rfl (by kernel_rfl) (by kernel_rfl) (by kernel_rfl) (fun _ _ _ h => h) (Or.inl ⟨by rfl, ?_⟩) hHeld ?_
              rotate_left
              · intro w hSw; have zd0 := keepc hSw d0; have zd1 := keepc hSw d1; have zg0 := keepc hSw g0; clear hSw; go_simp <;> with_reducible rfl
              (try simp only [Act.put, List.setIfInBounds_toArray, List.set_cons_zero, List.set_cons_succ])
              refine tk (i := 1) (d := (some 56)) (v := ?_) rfl rfl (by kernel_rfl) (by kernel_rfl) (by kernel_rfl) (fun _ _ _ h => h) (Or.inl ⟨by rfl, ?_⟩) hHeld ?_
              rotate_left
              · intro w hSw; have zd0 := keepc hSw d0; have zd1 := keepc hSw d1; have zg0 := keepc hSw g0; clear hSw; go_simp <;> with_reducible rfl
              (try simp only [Act.put, List.setIfInBounds_toArray, List.set_cons_zero, List.set_cons_succ])
              refine tk (i := 2) (d := (some 57)) (v := ?_) rfl rfl (by kernel_rfl) (by kernel_rfl) (by kernel_rfl) (fun _ _ _ h => h) (Or.inl ⟨by rfl, ?_⟩) hHeld ?_
              rotate_left
              · intro w hSw; have zd0 := keepc hSw d0; have zd1 := keepc hSw d1; have zg0 := keepc hSw g0; clear hSw; go_simp <;> with_reducible rfl
              (try simp only [Act.put, List.setIfInBounds_toArray, List.set_cons_zero, List.set_cons_succ])
              refine tk (i := 3) (d := (some 58)) (v := ?_) rfl rfl (by kernel_rfl) (by kernel_rfl) (by kernel_rfl) (fun _ _ _ h => h) (Or.inl ⟨by rfl, ?_⟩) hHeld ?_
              rotate_left
              · intro w hSw; have zd0 := keepc hSw d0; have zd1 := keepc hSw d1; have zg0 := keepc hSw g0; clear hSw; go_simp <;> with_reducible rfl
              (try simp only [Act.put, List.setIfInBounds_toArray, List.set_cons_zero, List.set_cons_succ])
              refine tk (i := 4) (d := (some 59)) (v := ?_) rfl rfl (by kernel_rfl) (by kernel_rfl) (by kernel_rfl) (fun _ _ _ h => h) (Or.inl ⟨by rfl, ?_⟩) hHeld ?_
              rotate_left
              · intro w hSw; have zd0 := keepc hSw d0; have zd1 := keepc hSw d1; have zg0 := keepc hSw g0; clear hSw; go_simp <;> with_reducible rfl
              (try simp only [Act.put, List.setIfInBounds_toArray, List.set_cons_zero, List.set_cons_succ])
              refine tk (i := 5) (d := (some 60)) (v := ?_) rfl rfl (by kernel_rfl) (by kernel_rfl) (by kernel_rfl) (fun _ _ _ h => h) (Or.inl ⟨by rfl, ?_⟩) hHeld ?_
              rotate_left
              · intro w hSw; have zd0 := keepc hSw d0; have zd1 := keepc hSw d1; have zg0 := keepc hSw g0; clear hSw; go_simp <;> with_reducible rfl
              (try simp only [Act.put, List.setIfInBounds_toArray, List.set_cons_zero, List.set_cons_succ])
              refine tk (i := 6) (d := (some 61)) (v := ?_) rfl rfl (by kernel_rfl) (by kernel_rfl) (by kernel_rfl) (fun _ _ _ h => h) (Or.inl ⟨by rfl, ?_⟩) hHeld ?_
              rotate_left
              · intro w hSw; have zd0 := keepc hSw d0; have zd1 := keepc hSw d1; have zg0 := keepc hSw g0; clear hSw; go_simp <;> with_reducible rfl
              (try simp only [Act.put, List.setIfInBounds_toArray, List.set_cons_zero, List.set_cons_succ])
              refine tk (i := 7) (d := (some 62)) (v := ?_) rfl rfl (by kernel_rfl) (by kernel_rfl) (by kernel_rfl) (fun _ _ _ h => h) (Or.inl ⟨by rfl, ?_⟩) hHeld ?_
              rotate_left
              · intro w hSw; have zd0 := keepc hSw d0; have zd1 := keepc hSw d1; have zg0 := keepc hSw g0; clear hSw; go_simp <;> with_reducible rfl
              (try simp only [Act.put, List.setIfInBounds_toArray, List.set_cons_zero, List.set_cons_succ])
              refine tk (i := 8) (d := (some 63)) (v := ?_) rfl rfl (by kernel_rfl) (by kernel_rfl) (by kernel_rfl) (fun _ _ _ h => h) (Or.inl ⟨by rfl, ?_⟩) hHeld ?_
              rotate_left
              · intro w hSw; have zd0 := keepc hSw d0; have zd1 := keepc hSw d1; have zg0 := keepc hSw g0; clear hSw; go_simp <;> with_reducible rfl
              (try simp only [Act.put, List.setIfInBounds_toArray, List.set_cons_zero, List.set_cons_succ])
              refine tk (i := 9) (d := (some 64)) (v := ?_) rfl rfl (by kernel_rfl) (by kernel_rfl) (by kernel_rfl) (fun _ _ _ h => h) (Or.inl ⟨by rfl, ?_⟩) hHeld ?_
              rotate_left
              · intro w hSw; have zd0 := keepc hSw d0; have zd1 := keepc hSw d1; have zg0 := keepc hSw g0; clear hSw; go_simp <;> with_reducible rfl
              (try simp only [Act.put, List.setIfInBounds_toArray, List.set_cons_zero, List.set_cons_succ])
              refine tk (i := 10) (d := (some 65)) (v := ?_) rfl rfl (by kernel_rfl) (by kernel_rfl) (by kernel_rfl) (fun _ _ _ h => h) (Or.inl ⟨by rfl, ?_⟩) hHeld ?_
              rotate_left
              · intro w hSw; have zd0 := keepc hSw d0; have zd1 := keepc hSw d1; have zg0 := keepc hSw g0; clear hSw; go_simp <;> with_reducible rfl
              (try simp only [Act.put, List.setIfInBounds_toArray, List.set_cons_zero, List.set_cons_succ])
              refine tk (i := 11) (d := (some 66)) (v := ?_) rfl rfl (by kernel_rfl) (by kernel_rfl) (by kernel_rfl) (fun _ _ _ h => h) (Or.inl ⟨by rfl, ?_⟩) hHeld ?_
              rotate_left
              · intro w hSw; have zd0 := keepc hSw d0; have zd1 := keepc hSw d1; have zg0 := keepc hSw g0; clear hSw; go_simp <;> with_reducible rfl
              (try simp only [Act.put, List.setIfInBounds_toArray, List.set_cons_zero, List.set_cons_succ])
              refine tk (i := 12) (d := (some 67)) (v := ?_) rfl rfl (by kernel_rfl) (by kernel_rfl) (by kernel_rfl) (fun _ _ _ h => h) (Or.inl ⟨by rfl, ?_⟩) hHeld ?_
              rotate_left
              · intro w hSw; have zd0 := keepc hSw d0; have zd1 := keepc hSw d1; have zg0 := keepc hSw g0; clear hSw; go_simp <;> with_reducible rfl
              (try simp only [Act.put, List.setIfInBounds_toArray, List.set_cons_zero, List.set_cons_succ])
              refine tk (i := 13) (d := (some 68)) (v := ?_) rfl rfl (by kernel_rfl) (by kernel_rfl) (by kernel_rfl) (fun _ _ _ h => h) (Or.inl ⟨by rfl, ?_⟩) hHeld ?_
              rotate_left
              · intro w hSw; have zd0 := keepc hSw d0; have zd1 := keepc hSw d1; have zg0 := keepc hSw g0; clear hSw; go_simp <;> with_reducible rfl
              (try simp only [Act.put, List.setIfInBounds_toArray, List.set_cons_zero, List.set_cons_succ])
              refine tk (i := 14) (d := (some 69)) (v := ?_) rfl rfl (by kernel_rfl) (by kernel_rfl) (by kernel_rfl) (fun _ _ _ h => h) (Or.inl ⟨by rfl, ?_⟩) hHeld ?_
              rotate_left
              · intro w hSw; have zd0 := keepc hSw d0; have zd1 := keepc hSw d1; have zg0 := keepc hSw g0; clear hSw; go_simp <;> with_reducible rfl
              (try simp only [Act.put, List.setIfInBounds_toArray, List.set_cons_zero, List.set_cons_succ])
              refine tk (i := 15) (d := (some 70)) (v := ?_) rfl rfl (by kernel_rfl) (by kernel_rfl) (by kernel_rfl) (fun _ _ _ h => h) (Or.inl ⟨by rfl, ?_⟩) hHeld ?_
              rotate_left
              · intro w hSw; have zd0 := keepc hSw d0; have zd1 := keepc hSw d1; have zg0 := keepc hSw g0; clear hSw; go_simp <;> with_reducible rfl
              (try simp only [Act.put, List.setIfInBounds_toArray, List.set_cons_zero, List.set_cons_succ])
              refine tk (i := 16) (d := (some 71)) (v := ?_) rfl rfl (by kernel_rfl) (by kernel_rfl) (by kernel_rfl) (fun _ _ _ h => h) (Or.inl ⟨by rfl, ?_⟩) hHeld ?_
              rotate_left
              · intro w hSw; have zd0 := keepc hSw d0; have zd1 := keepc hSw d1; have zg0 := keepc hSw g0; clear hSw; go_simp <;> with_reducible rfl
              (try simp only [Act.put, List.setIfInBounds_toArray, List.set_cons_zero, List.set_cons_succ])
              refine wpAnyH_ready (rs := [17]) (by kernel_rfl) (by simp) ?_
              refine AllReadyH.cons rfl (fun K hK => ?_) AllReadyH.nil
              go_simp
              refine (pathUnder_c e.p m.p u HU _ (by omega) (by omega)).mono ?_; rintro e W ⟨rfl, hq⟩
              go_simp
              refine hK.out _ _ (chn hHeld hq) (fun h => ?_)
              clear hK K; replace hHeld := h; clear h hq
              (try simp only [Act.put, List.setIfInBounds_toArray, List.set_cons_zero, List.set_cons_succ])
              refine tk (i := 18) (d := (some 73)) (v := ?_) rfl rfl (by kernel_rfl) (by kernel_rfl) (by kernel_rfl) (fun _ _ _ h => h) (Or.inl ⟨by rfl, ?_⟩) hHeld ?_
              rotate_left
              · intro w hSw; have zd0 := keepc hSw d0; have zd1 := keepc hSw d1; have zg0 := keepc hSw g0; clear hSw; go_simp <;> with_reducible rfl
              (try simp only [Act.put, List.setIfInBounds_toArray, List.set_cons_zero, List.set_cons_succ])
              refine tk (i := 19) (d := (some 74)) (v := ?_) rfl rfl (by kernel_rfl) (by kernel_rfl) (by kernel_rfl) (fun _ _ _ h => h) (Or.inl ⟨by rfl, ?_⟩) hHeld ?_
              rotate_left
              · intro w hSw; have zd0 := keepc hSw d0; have zd1 := keepc hSw d1; have zg0 := keepc hSw g0; clear hSw; go_simp <;> with_reducible rfl
              (try simp only [Act.put, List.setIfInBounds_toArray, List.set_cons_zero, List.set_cons_succ])
              refine wpAnyH_done (by kernel_rfl) ?_ _
              replace hb := chn hb hHeld; replace d0 := keepc hHeld d0; replace d1 := keepc hHeld d1; replace g0 := keepc hHeld g0; clear hHeld
              cases u with
              | false =>
                clear HBE hk2
                go_wp2
                go_roundw
                case rel => exact ⟨k + 1, by omega, by go_num, by first | exact hb | exact drw hb _⟩
                case measure => simp [intOf]; omega
              | true =>
                obtain ⟨hk4, f, hf, hfp⟩ := HBE.out hk2 HU.out
                have hkb4 : (m.k != 4) = false := by rw [bne_eq_false_iff_eq]; exact hk4
                have HEX : Hid (∃ (q : Nat) (f : Mk), xs[q]? = some f ∧ f.p = e.p) := by
                  obtain ⟨q, hq⟩ := List.getElem?_of_mem hf
                  exact ⟨q, f, hq, hfp⟩
                have HB2 := Lib.hid hb
                have HD1 := Lib.hid d1
                have HG0 := Lib.hid g0
                clear HBE hk2 hk4 hf hfp hkb d0 d1 g0 hb HU
                simp only [Bool.not_true]
                go_wp2
                go_loopw [11, 12] (fun hv iv wr' => ∃ (q : Nat) (s : Bool), q ≤ n1 ∧ iv = .int .i64 q ∧ hv = .bool s ∧ ((∃ (r : Nat) (f : Mk), r < q ∧ xs[r]? = some f ∧ f.p = e.p) → s = true) ∧ Below W.heap.size W wr') (fun _ iv _ => n1 - (intOf iv).toNat)
                case atStart => exact ⟨0, false, Nat.zero_le _, rfl, rfl, fun ⟨r, _, h, _⟩ => absurd h (by omega), Below.refl _ _⟩
                case round =>
                  obtain ⟨q, s, hq, rfl, rfl, hs, hbi⟩ := hrel
                  have hb := chn HB2.out hbi
                  have HSS := Lib.hid hs
                  clear hs
                  by_cases hlq : q < n1
                  · obtain ⟨f, hff⟩ : ∃ e, xs[q]? = some e := ⟨_, List.getElem?_eq_getElem (by rw [HN1.out]; exact hlq)⟩
                    obtain ⟨p0, _, _⟩ := mk_at (HR0.out.below hb).sl q f hff
                    have g0 := keepc hbi HG0.out
                    have i4 : (0 : Int) ≤ (q : Int) := by omega
                    have i5 : (q : Int) < (n1 : Int) := by omega
                    have HFF := Lib.hid hff
                    clear hff hb
                    cases s with
                    | true =>
                      go_wp2_with fail
                      go_quiet (fail)
                      go_wp2
                      go_roundw
                      case rel => exact ⟨q + 1, true, by omega, by go_num, rfl, fun _ => rfl, by first | exact hbi | exact drw hbi _⟩
                      case measure => simp [intOf]; omega
                    | false =>
                      by_cases he : f.p = e.p
                      · have hbe := beqs_yes (congrArg (·.data.toList) he)
                        clear he
                        go_wp2_with fail
                        go_quiet (fail)
                        go_wp2
                        go_roundw
                        case rel => exact ⟨q + 1, true, by omega, by go_num, rfl, fun _ => rfl, by first | exact hbi | exact drw hbi _⟩
                        case measure => simp [intOf]; omega
                      · have hbe := beqs_no (fun h => he (bytes_eq h))
                        go_wp2_with fail
                        go_quiet (fail)
                        go_wp2
                        go_roundw
                        case rel => exact ⟨q + 1, false, by omega, by go_num, rfl, fun ⟨r, f', h1, h2, h3⟩ => by
                          by_cases er : r = q
                          · subst er; rw [HFF.out] at h2; injection h2 with h2; exact absurd (by rw [h2]; exact h3) he
                          · exact HSS.out ⟨r, f', by omega, h2, h3⟩, by first | exact hbi | exact drw hbi _⟩
                        case measure => simp [intOf]; omega
                  · obtain rfl : q = n1 := by omega
                    obtain rfl : s = true := by
                      obtain ⟨r, f', h1, h2⟩ := HEX.out
                      exact HSS.out ⟨r, f', by have := (List.getElem?_eq_some_iff.1 h1).1; rw [HN1.out] at this; exact this, h1, h2⟩
                    have d1 := keepc hbi HD1.out
                    clear HSS hbi
                    go_wp2
                    go_roundw
                    case rel => exact ⟨k + 1, by omega, by go_num, by first | exact hb | exact drw hb _⟩
                    case measure => simp [intOf]; omega
          · obtain rfl : k = n3 := by omega
            go_wp2
            go_roundw
            case rel => exact ⟨j + 1, by omega, by go_num, hb⟩
            case measure => simp [intOf]; omega
      · obtain rfl : j = n1 := by omega
        have hbX := chn HB0.out hb
        clear hb
        go_wp2
        go_ret
        exact ⟨rfl, hbX⟩
end Go.Proofs.YtdhbdcmnbhjjaabGreatDoor
